/- Walk of ladder.Mul: the product of the plain ladder. Nothing that was there is turned. -/
import Derived.Test.YtciakfhjjnmeeaaClamp
import Derived.Test.YtciakfhjjnmeeaaOpsG
import Derived.Test.YtciakfhjjnmeeaaFieldP
import Derived.Test.YtciakfhjjnmeeaaForm
namespace Go.Proofs.Ytciakfhjjnmeeaa
open Go.RowKit Nt Edw

/-- The exchange. -/
def swp (b : Bool) (s : (F × F) × (F × F)) : (F × F) × (F × F) := if b then (s.2, s.1) else s
theorem dad_comm (x1 : F) (p q : F × F) : dad x1 p q = dad x1 q p := Prod.ext (by simp only [dad]; grind) (by simp only [dad]; grind)
/-- A round: exchanged by whether the bits differ, then a doubling and a sum. -/
theorem round_stp (x1 : F) (b b' : Bool) (p2 q2 p3 q3 : F) :
    swp b' (dbl (selF (xor b b') p3 p2, selF (xor b b') q3 q2), dad x1 (selF (xor b b') p3 p2, selF (xor b b') q3 q2) (selF (xor b b') p2 p3, selF (xor b b') q2 q3)) = stp x1 b' (swp b ((p2, q2), (p3, q3))) := by
  cases b <;> cases b'
  · rfl
  · show (dad x1 (p3, q3) (p2, q2), dbl (p3, q3)) = (dad x1 (p2, q2) (p3, q3), dbl (p3, q3)); rw [dad_comm]
  · show (dbl (p3, q3), dad x1 (p3, q3) (p2, q2)) = (dbl (p3, q3), dad x1 (p3, q3) (p2, q2)); rfl
  · show (dad x1 (p2, q2) (p3, q3), dbl (p2, q2)) = (dad x1 (p3, q3) (p2, q2), dbl (p2, q2)); rw [dad_comm]
theorem clamp_ev (L : List Int) (hl : L.length = 32) (hb : Byt L) (V : Nat) (h : clampL L = bytesN V) (w : World) : Calls Try.prog 48 #[.agg (vals L)] w (Gives (· = .agg (vals (bytesN V))) w) := by
  have := clamp_any L w hl hb
  rw [h] at this; exact this
theorem times24_ev {x : Value} {n m : F} (hm : n * 121665 = m) (hx : IsEl n x) (w : World) : Calls Try.prog 40 #[x, .int .u32 121665] w (Gives (IsEl m) w) := by
  have e : (Fin.ofNat P (121665 : Int).toNat : F) = 121665 := by decide
  exact times_ev (by omega) (by rw [e]; exact hm) hx w
/-- The mask's lowest bit tells whether two bits differ. -/
theorem mask_bit (b b' : Bool) : (0 ≤ IntKind.u64.wrap (-(bits .xor .u64 (b.toNat : Int) (b'.toNat : Int))) ∧ IntKind.u64.wrap (-(bits .xor .u64 (b.toNat : Int) (b'.toNat : Int))) < 18446744073709551616) ∧ decide (IntKind.u64.wrap (-(bits .xor .u64 (b.toNat : Int) (b'.toNat : Int))) % 2 = 1) = xor b b' := by
  cases b <;> cases b' <;> decide
theorem neg_bit (b : Bool) : (0 ≤ IntKind.u64.wrap (-(b.toNat : Int)) ∧ IntKind.u64.wrap (-(b.toNat : Int)) < 18446744073709551616) ∧ decide (IntKind.u64.wrap (-(b.toNat : Int)) % 2 = 1) = b := by
  cases b <;> decide

theorem swap_evn {x y : Value} {n m n' m' : F} (b : Bool) {v : Int} (h : (0 ≤ v ∧ v < 18446744073709551616) ∧ decide (v % 2 = 1) = b) (hx : IsEl n x) (hy : IsEl m y) (e1 : n' = selF b m n) (e2 : m' = selF b n m) (w : World) : Calls Try.prog 38 #[.int .u64 v, x, y] w (Gives (IsEl2 n' m') w) := by
  subst e1; subst e2; exact swap_ev b h hx hy w
theorem and_one64 (x : Int) (h0 : 0 ≤ x) (h1 : x < 256) : bits .and .u64 x 1 = x % 2 := by
  obtain ⟨n, rfl⟩ := Int.eq_ofNat_of_zero_le h0
  have h : ∀ n : Fin 256, bits .and .u64 (n.val : Int) 1 = (n.val : Int) % 2 := by decide +kernel
  exact h ⟨n, by omega⟩

set_option maxHeartbeats 4000000 in
set_option maxRecDepth 100000 in
theorem ladmul_any (Lk Lu : List Int) (V : Nat) (x1 R : F) (w : World) (hlk : Lk.length = 32) (hbk : Byt Lk) (hlu : Lu.length = 32) (hbu : Byt Lu) (hV : clampL Lk = bytesN V) (hV2 : V < 2 ^ 255) (hx : numF Lu = x1) (hR : prod V x1 = R) :
    Calls Try.prog 47 #[.agg (vals Lk), .agg (vals Lu)] w (Gives (· = .agg (vals (bytesN R.val))) w) := by
  have HLK := Lib.hid hlk
  have HLU := Lib.hid hlu
  have HV := Lib.hid hV
  have HV2 := Lib.hid hV2
  have HX := Lib.hid hx
  have HR := Lib.hid hR
  clear hlk hlu hV hV2 hx hR
  have hS : Own w [(w.heap.size, 32, (· = .agg (vals Lk))), (w.heap.size + 1, 32, (· = .agg (vals Lu))), (w.heap.size + 1 + 1, 32, (fun _ => True))] (((w.alloc (.cells (vals Lk) 68)).alloc (.cells (vals Lu) 68)).alloc (.cells #[.int .u8 0, .int .u8 0, .int .u8 0, .int .u8 0, .int .u8 0, .int .u8 0, .int .u8 0, .int .u8 0, .int .u8 0, .int .u8 0, .int .u8 0, .int .u8 0, .int .u8 0, .int .u8 0, .int .u8 0, .int .u8 0, .int .u8 0, .int .u8 0, .int .u8 0, .int .u8 0, .int .u8 0, .int .u8 0, .int .u8 0, .int .u8 0, .int .u8 0, .int .u8 0, .int .u8 0, .int .u8 0, .int .u8 0, .int .u8 0, .int .u8 0, .int .u8 0] 68)) := by
    have a0 : Own w [] (((w.alloc (.cells (vals Lk) 68)).alloc (.cells (vals Lu) 68)).alloc (.cells #[.int .u8 0, .int .u8 0, .int .u8 0, .int .u8 0, .int .u8 0, .int .u8 0, .int .u8 0, .int .u8 0, .int .u8 0, .int .u8 0, .int .u8 0, .int .u8 0, .int .u8 0, .int .u8 0, .int .u8 0, .int .u8 0, .int .u8 0, .int .u8 0, .int .u8 0, .int .u8 0, .int .u8 0, .int .u8 0, .int .u8 0, .int .u8 0, .int .u8 0, .int .u8 0, .int .u8 0, .int .u8 0, .int .u8 0, .int .u8 0, .int .u8 0, .int .u8 0] 68)) := Own.of_below (by go_grown)
    have a1 := a0.add (g := w.heap.size) (n := 32) (V := (· = .agg (vals Lk))) (Nat.le_refl _) (fun r hr => by cases hr) ⟨_, _, new3_0 .., by rw [vals_size, HLK.out], rfl⟩
    have a2 := a1.add (g := w.heap.size + 1) (n := 32) (V := (· = .agg (vals Lu))) (by omega) (by simp) ⟨_, _, new3_1 .., by rw [vals_size, HLU.out], rfl⟩
    exact a2.add (g := w.heap.size + 1 + 1) (n := 32) (V := fun _ => True) (by omega) (by simp; omega) ⟨_, _, new3_2 .., rfl, trivial⟩
  go_enter Try.func47, Try.ntmps47
  go_wp2_with ((with_reducible refine guard_list ?_); first | (refine held_load 26 _ rfl ?_) | (refine held_load 22 _ rfl ?_) | (refine held_load 68 _ rfl ?_))
  generalize ((w.alloc (.cells (vals Lk) 68)).alloc (.cells (vals Lu) 68)).alloc (.cells #[.int .u8 0, .int .u8 0, .int .u8 0, .int .u8 0, .int .u8 0, .int .u8 0, .int .u8 0, .int .u8 0, .int .u8 0, .int .u8 0, .int .u8 0, .int .u8 0, .int .u8 0, .int .u8 0, .int .u8 0, .int .u8 0, .int .u8 0, .int .u8 0, .int .u8 0, .int .u8 0, .int .u8 0, .int .u8 0, .int .u8 0, .int .u8 0, .int .u8 0, .int .u8 0, .int .u8 0, .int .u8 0, .int .u8 0, .int .u8 0, .int .u8 0, .int .u8 0] 68) = W0 at *
  obtain ⟨M, hM⟩ : ∃ M, M = W0.heap.size := ⟨_, rfl⟩
  have hMB : w.heap.size ≤ M := hM ▸ hS.1.size
  have ltM := hS.lt
  rw [← hM] at ltM
  refine hide_held fun t0 HT => ?_
  have HS : t0.size = 125 := by rw [HT]; rfl
  have h2 : t0[2]? = some (.pointer (some ⟨w.heap.size, 0, none⟩)) := by rw [HT]; rfl
  have h3 : t0[3]? = some (.pointer (some ⟨(w.heap.size + 1), 0, none⟩)) := by rw [HT]; rfl
  have h4 : t0[4]? = some (.pointer (some ⟨(w.heap.size + 1 + 1), 0, none⟩)) := by rw [HT]; rfl
  clear HT
  refine wp_list_most 3 (fun i => [22, 23, 5].getD i 0) (fun i => [none, none, some 32].getD i none) (fun i => [(· = .agg (vals Lk)), (· = .agg (vals (bytesN V))), (fun _ => True)].getD i (fun _ => True)) (fun w' => Own w [(w.heap.size, 32, (· = .agg (vals Lk))), ((w.heap.size + 1), 32, (· = .agg (vals Lu))), ((w.heap.size + 1 + 1), 32, (fun _ => True))] w' ∧ M ≤ w'.heap.size) M
    (by kernel_rfl) (slots_apart (by kernel_rfl)) (slots_lie (by rw [HS]; kernel_rfl)) ⟨hS, Nat.le_of_eq hM⟩ (fun w' h => h.2) (fun w1 w2 h b => ⟨h.1.keep b, Nat.le_trans h.2 b.size⟩) ?_ ?_ ?_
  · clear hS
    intro i o hi ho hA
    have hc : i = 0 ∨ i = 1 ∨ i = 2 := by omega
    rcases hc with rfl | rfl | rfl
    · obtain rfl := Option.some.inj ho
      refine ⟨rfl, fun a w' hS hold hin K hK => ?_⟩
      refine if_always rfl ?_
      exact op_ld_own 32 tKey (.tmp 2) rfl rfl _ (eval_tmp ((hold 2 (slots_not (by kernel_rfl))).trans h2)) hS.1 0 rfl hK
    · obtain rfl := Option.some.inj ho
      refine ⟨rfl, fun a w' hS hold hin K hK => ?_⟩
      obtain ⟨y0, x0, rfl⟩ := hin 0 rfl (by omega) rfl
      refine if_always rfl ?_
      exact op_fn1 _ _ _ _ rfl rfl (eval_tmp x0) (by intro args w; kernel_rfl) (clamp_ev Lk HLK.out hbk V HV.out _) hK
    · cases hA
  · intro i o sz hi ho hA
    have hc : i = 0 ∨ i = 1 ∨ i = 2 := by omega
    rcases hc with rfl | rfl | rfl
    · cases hA
    · cases hA
    · obtain rfl := Option.some.inj ho
      obtain rfl := Option.some.inj hA
      exact ⟨rfl, rfl, 68, #[.int .u8 0, .int .u8 0, .int .u8 0, .int .u8 0, .int .u8 0, .int .u8 0, .int .u8 0, .int .u8 0, .int .u8 0, .int .u8 0, .int .u8 0, .int .u8 0, .int .u8 0, .int .u8 0, .int .u8 0, .int .u8 0, .int .u8 0, .int .u8 0, .int .u8 0, .int .u8 0, .int .u8 0, .int .u8 0, .int .u8 0, .int .u8 0, .int .u8 0, .int .u8 0, .int .u8 0, .int .u8 0, .int .u8 0, .int .u8 0, .int .u8 0, .int .u8 0], rfl, fun a w' K h => wp_new 68 #[.int .u8 0, .int .u8 0, .int .u8 0, .int .u8 0, .int .u8 0, .int .u8 0, .int .u8 0, .int .u8 0, .int .u8 0, .int .u8 0, .int .u8 0, .int .u8 0, .int .u8 0, .int .u8 0, .int .u8 0, .int .u8 0, .int .u8 0, .int .u8 0, .int .u8 0, .int .u8 0, .int .u8 0, .int .u8 0, .int .u8 0, .int .u8 0, .int .u8 0, .int .u8 0, .int .u8 0, .int .u8 0, .int .u8 0, .int .u8 0, .int .u8 0, .int .u8 0] (fun w => by kernel_rfl) h⟩
  clear hS
  intro t1 V1 hs hold hout hall hne hS
  replace HS := hs.trans HS
  replace hS := hS.1
  obtain ⟨gn, h5, b5, r5⟩ : ∃ g, t1[5]? = some (.pointer (some ⟨g, 0, none⟩)) ∧ M ≤ g ∧ ∃ cs ty, V1.heap[g]? = some (.cells cs ty (0, 0)) ∧ cs.size = 32 := by
    obtain ⟨g, p1, p2, ty, cs, p3, p4⟩ := hall 2 (by omega) 32 rfl
    exact ⟨g, p1, p2, cs, ty, p3, p4⟩
  replace hS : Own w [(w.heap.size, 32, (· = .agg (vals Lk))), ((w.heap.size + 1), 32, (· = .agg (vals Lu))), ((w.heap.size + 1 + 1), 32, (fun _ => True)), (gn, 32, (fun _ => True))] V1 := hS.add (Nat.le_trans hMB b5) (fun r hr => Nat.ne_of_lt (Nat.lt_of_lt_of_le (ltM r hr) b5)) (Own.any r5)
  obtain ⟨x23, q23, v23⟩ : ∃ x, t1[23]? = some x ∧ ((· = .agg (vals (bytesN V)))) x := hout 1 (by omega) rfl
  replace h2 := (hold 2 (slots_not (by kernel_rfl))).trans h2
  replace h3 := (hold 3 (slots_not (by kernel_rfl))).trans h3
  replace h4 := (hold 4 (slots_not (by kernel_rfl))).trans h4
  clear hold hout hs hall hne
  simp only [List.drop_succ_cons, List.drop_zero]
  refine st_own 32 tKey rfl (.tmp 5) (.tmp 23) rfl rfl _ _ (eval_tmp h5) (eval_tmp q23) (V' := (· = .agg (vals (bytesN V)))) v23 (by_row (bytesN_len _)) hS 3 rfl fun V1' hS' _ => ?_
  replace hS : Own w [(w.heap.size, 32, (· = .agg (vals Lk))), ((w.heap.size + 1), 32, (· = .agg (vals Lu))), ((w.heap.size + 1 + 1), 32, (fun _ => True)), (gn, 32, (· = .agg (vals (bytesN V))))] V1' := hS'
  clear hS'
  refine wpList_nil ?_
  obtain ⟨f, e0, hf⟩ := wash HS
  have f2 := hf 2 _ h2
  have f3 := hf 3 _ h3
  have f4 := hf 4 _ h4
  have f5 := hf 5 _ h5
  clear hf
  rw [e0.trans (show _ = #[f 0, f 1, f 2, f 3, f 4, f 5, f 6, f 7, f 8, f 9, f 10, f 11, f 12, f 13, f 14, f 15, f 16, f 17, f 18, f 19, f 20, f 21, f 22, f 23, f 24, f 25, f 26, f 27, f 28, f 29, f 30, f 31, f 32, f 33, f 34, f 35, f 36, f 37, f 38, f 39, f 40, f 41, f 42, f 43, f 44, f 45, f 46, f 47, f 48, f 49, f 50, f 51, f 52, f 53, f 54, f 55, f 56, f 57, f 58, f 59, f 60, f 61, f 62, f 63, f 64, f 65, f 66, f 67, f 68, f 69, f 70, f 71, f 72, f 73, f 74, f 75, f 76, f 77, f 78, f 79, f 80, f 81, f 82, f 83, f 84, f 85, f 86, f 87, f 88, f 89, f 90, f 91, f 92, f 93, f 94, f 95, f 96, f 97, f 98, f 99, f 100, f 101, f 102, f 103, f 104, f 105, f 106, f 107, f 108, f 109, f 110, f 111, f 112, f 113, f 114, f 115, f 116, f 117, f 118, f 119, f 120, f 121, f 122, f 123, f 124] from by kernel_rfl), f2, f3, f4, f5]
  clear f2 f3 f4 f5
  clear e0
  dsimp only
  clear h2 h3 h4 h5 q23 v23 b5 r5 ltM hMB hM HS t1 t0 M
  go_wp2_with ((with_reducible refine guard_list ?_); first | (refine held_load 26 _ rfl ?_) | (refine held_load 22 _ rfl ?_) | (refine held_load 68 _ rfl ?_))
  obtain ⟨M, hM⟩ : ∃ M, M = V1'.heap.size := ⟨_, rfl⟩
  have hMB : w.heap.size ≤ M := hM ▸ hS.1.size
  have ltM := hS.lt
  rw [← hM] at ltM
  refine hide_held fun t0 HT => ?_
  have HS : t0.size = 125 := by rw [HT]; rfl
  have h2 : t0[2]? = some (.pointer (some ⟨w.heap.size, 0, none⟩)) := by rw [HT]; rfl
  have h3 : t0[3]? = some (.pointer (some ⟨(w.heap.size + 1), 0, none⟩)) := by rw [HT]; rfl
  have h4 : t0[4]? = some (.pointer (some ⟨(w.heap.size + 1 + 1), 0, none⟩)) := by rw [HT]; rfl
  have h5 : t0[5]? = some (.pointer (some ⟨gn, 0, none⟩)) := by rw [HT]; rfl
  clear HT
  refine wp_list_most 3 (fun i => [24, 25, 6].getD i 0) (fun i => [none, none, some 5].getD i none) (fun i => [(· = .agg (vals Lu)), IsEl x1, (fun _ => True)].getD i (fun _ => True)) (fun w' => Own w [(w.heap.size, 32, (· = .agg (vals Lk))), ((w.heap.size + 1), 32, (· = .agg (vals Lu))), ((w.heap.size + 1 + 1), 32, (fun _ => True)), (gn, 32, (· = .agg (vals (bytesN V))))] w' ∧ M ≤ w'.heap.size) M
    (by kernel_rfl) (slots_apart (by kernel_rfl)) (slots_lie (by rw [HS]; kernel_rfl)) ⟨hS, Nat.le_of_eq hM⟩ (fun w' h => h.2) (fun w1 w2 h b => ⟨h.1.keep b, Nat.le_trans h.2 b.size⟩) ?_ ?_ ?_
  · clear hS
    intro i o hi ho hA
    have hc : i = 0 ∨ i = 1 ∨ i = 2 := by omega
    rcases hc with rfl | rfl | rfl
    · obtain rfl := Option.some.inj ho
      refine ⟨rfl, fun a w' hS hold hin K hK => ?_⟩
      refine if_always rfl ?_
      exact op_ld_own 32 tKey (.tmp 3) rfl rfl _ (eval_tmp ((hold 3 (slots_not (by kernel_rfl))).trans h3)) hS.1 1 rfl hK
    · obtain rfl := Option.some.inj ho
      refine ⟨rfl, fun a w' hS hold hin K hK => ?_⟩
      obtain ⟨y0, x0, rfl⟩ := hin 0 rfl (by omega) rfl
      refine if_always rfl ?_
      exact op_fn1 _ _ _ _ rfl rfl (eval_tmp x0) (by intro args w; kernel_rfl) (of_ev Lu HLU.out hbu HX.out _) hK
    · cases hA
  · intro i o sz hi ho hA
    have hc : i = 0 ∨ i = 1 ∨ i = 2 := by omega
    rcases hc with rfl | rfl | rfl
    · cases hA
    · cases hA
    · obtain rfl := Option.some.inj ho
      obtain rfl := Option.some.inj hA
      exact ⟨rfl, rfl, 26, #[.int .u64 0, .int .u64 0, .int .u64 0, .int .u64 0, .int .u64 0], rfl, fun a w' K h => wp_new 26 #[.int .u64 0, .int .u64 0, .int .u64 0, .int .u64 0, .int .u64 0] (fun w => by kernel_rfl) h⟩
  clear hS
  intro t1 V2 hs hold hout hall hne hS
  replace HS := hs.trans HS
  replace hS := hS.1
  obtain ⟨g6, h6, b6, r6⟩ : ∃ g, t1[6]? = some (.pointer (some ⟨g, 0, none⟩)) ∧ M ≤ g ∧ ∃ cs ty, V2.heap[g]? = some (.cells cs ty (0, 0)) ∧ cs.size = 5 := by
    obtain ⟨g, p1, p2, ty, cs, p3, p4⟩ := hall 2 (by omega) 5 rfl
    exact ⟨g, p1, p2, cs, ty, p3, p4⟩
  replace hS : Own w [(w.heap.size, 32, (· = .agg (vals Lk))), ((w.heap.size + 1), 32, (· = .agg (vals Lu))), ((w.heap.size + 1 + 1), 32, (fun _ => True)), (gn, 32, (· = .agg (vals (bytesN V)))), (g6, 5, (fun _ => True))] V2 := hS.add (Nat.le_trans hMB b6) (fun r hr => Nat.ne_of_lt (Nat.lt_of_lt_of_le (ltM r hr) b6)) (Own.any r6)
  obtain ⟨x25, q25, v25⟩ : ∃ x, t1[25]? = some x ∧ (IsEl x1) x := hout 1 (by omega) rfl
  replace h2 := (hold 2 (slots_not (by kernel_rfl))).trans h2
  replace h3 := (hold 3 (slots_not (by kernel_rfl))).trans h3
  replace h4 := (hold 4 (slots_not (by kernel_rfl))).trans h4
  replace h5 := (hold 5 (slots_not (by kernel_rfl))).trans h5
  clear hold hout hs hall hne
  simp only [List.drop_succ_cons, List.drop_zero]
  refine st_own 5 tElem rfl (.tmp 6) (.tmp 25) rfl rfl _ _ (eval_tmp h6) (eval_tmp q25) (V' := IsEl x1) v25 (fun x hx => el_row hx) hS 4 rfl fun V2' hS' _ => ?_
  replace hS : Own w [(w.heap.size, 32, (· = .agg (vals Lk))), ((w.heap.size + 1), 32, (· = .agg (vals Lu))), ((w.heap.size + 1 + 1), 32, (fun _ => True)), (gn, 32, (· = .agg (vals (bytesN V)))), (g6, 5, IsEl x1)] V2' := hS'
  clear hS'
  refine wpList_nil ?_
  obtain ⟨f, e0, hf⟩ := wash HS
  have f2 := hf 2 _ h2
  have f3 := hf 3 _ h3
  have f4 := hf 4 _ h4
  have f5 := hf 5 _ h5
  have f6 := hf 6 _ h6
  clear hf
  rw [e0.trans (show _ = #[f 0, f 1, f 2, f 3, f 4, f 5, f 6, f 7, f 8, f 9, f 10, f 11, f 12, f 13, f 14, f 15, f 16, f 17, f 18, f 19, f 20, f 21, f 22, f 23, f 24, f 25, f 26, f 27, f 28, f 29, f 30, f 31, f 32, f 33, f 34, f 35, f 36, f 37, f 38, f 39, f 40, f 41, f 42, f 43, f 44, f 45, f 46, f 47, f 48, f 49, f 50, f 51, f 52, f 53, f 54, f 55, f 56, f 57, f 58, f 59, f 60, f 61, f 62, f 63, f 64, f 65, f 66, f 67, f 68, f 69, f 70, f 71, f 72, f 73, f 74, f 75, f 76, f 77, f 78, f 79, f 80, f 81, f 82, f 83, f 84, f 85, f 86, f 87, f 88, f 89, f 90, f 91, f 92, f 93, f 94, f 95, f 96, f 97, f 98, f 99, f 100, f 101, f 102, f 103, f 104, f 105, f 106, f 107, f 108, f 109, f 110, f 111, f 112, f 113, f 114, f 115, f 116, f 117, f 118, f 119, f 120, f 121, f 122, f 123, f 124] from by kernel_rfl), f2, f3, f4, f5, f6]
  clear f2 f3 f4 f5 f6
  clear e0
  dsimp only
  clear h2 h3 h4 h5 h6 q25 v25 b6 r6 ltM hMB hM HS t1 t0 M
  go_wp2_with ((with_reducible refine guard_list ?_); first | (refine held_load 26 _ rfl ?_) | (refine held_load 22 _ rfl ?_) | (refine held_load 68 _ rfl ?_) | (refine held_call _ rfl ?_))
  obtain ⟨M, hM⟩ : ∃ M, M = V2'.heap.size := ⟨_, rfl⟩
  have hMB : w.heap.size ≤ M := hM ▸ hS.1.size
  have ltM := hS.lt
  rw [← hM] at ltM
  refine hide_held fun t0 HT => ?_
  have HS : t0.size = 125 := by rw [HT]; rfl
  have h2 : t0[2]? = some (.pointer (some ⟨w.heap.size, 0, none⟩)) := by rw [HT]; rfl
  have h3 : t0[3]? = some (.pointer (some ⟨(w.heap.size + 1), 0, none⟩)) := by rw [HT]; rfl
  have h4 : t0[4]? = some (.pointer (some ⟨(w.heap.size + 1 + 1), 0, none⟩)) := by rw [HT]; rfl
  have h5 : t0[5]? = some (.pointer (some ⟨gn, 0, none⟩)) := by rw [HT]; rfl
  have h6 : t0[6]? = some (.pointer (some ⟨g6, 0, none⟩)) := by rw [HT]; rfl
  clear HT
  refine wp_list_most 4 (fun i => [26, 27, 7, 8].getD i 0) (fun i => [none, none, some 5, some 5].getD i none) (fun i => [IsEl (1 : F), IsEl (0 : F), (fun _ => True), (fun _ => True)].getD i (fun _ => True)) (fun w' => Own w [(w.heap.size, 32, (· = .agg (vals Lk))), ((w.heap.size + 1), 32, (· = .agg (vals Lu))), ((w.heap.size + 1 + 1), 32, (fun _ => True)), (gn, 32, (· = .agg (vals (bytesN V)))), (g6, 5, IsEl x1)] w' ∧ M ≤ w'.heap.size) M
    (by kernel_rfl) (slots_apart (by kernel_rfl)) (slots_lie (by rw [HS]; kernel_rfl)) ⟨hS, Nat.le_of_eq hM⟩ (fun w' h => h.2) (fun w1 w2 h b => ⟨h.1.keep b, Nat.le_trans h.2 b.size⟩) ?_ ?_ ?_
  · clear hS
    intro i o hi ho hA
    have hc : i = 0 ∨ i = 1 ∨ i = 2 ∨ i = 3 := by omega
    rcases hc with rfl | rfl | rfl | rfl
    · obtain rfl := Option.some.inj ho
      refine ⟨rfl, fun a w' hS hold hin K hK => ?_⟩
      refine if_always rfl ?_
      exact op_fn1 _ _ _ _ rfl rfl rfl (by intro args w; kernel_rfl) (small_evl 1 (by omega) (by decide) _) hK
    · obtain rfl := Option.some.inj ho
      refine ⟨rfl, fun a w' hS hold hin K hK => ?_⟩
      refine if_always rfl ?_
      exact op_fn1 _ _ _ _ rfl rfl rfl (by intro args w; kernel_rfl) (small_evl 0 (by omega) (by decide) _) hK
    · cases hA
    · cases hA
  · intro i o sz hi ho hA
    have hc : i = 0 ∨ i = 1 ∨ i = 2 ∨ i = 3 := by omega
    rcases hc with rfl | rfl | rfl | rfl
    · cases hA
    · cases hA
    · obtain rfl := Option.some.inj ho
      obtain rfl := Option.some.inj hA
      exact ⟨rfl, rfl, 26, #[.int .u64 0, .int .u64 0, .int .u64 0, .int .u64 0, .int .u64 0], rfl, fun a w' K h => wp_new 26 #[.int .u64 0, .int .u64 0, .int .u64 0, .int .u64 0, .int .u64 0] (fun w => by kernel_rfl) h⟩
    · obtain rfl := Option.some.inj ho
      obtain rfl := Option.some.inj hA
      exact ⟨rfl, rfl, 26, #[.int .u64 0, .int .u64 0, .int .u64 0, .int .u64 0, .int .u64 0], rfl, fun a w' K h => wp_new 26 #[.int .u64 0, .int .u64 0, .int .u64 0, .int .u64 0, .int .u64 0] (fun w => by kernel_rfl) h⟩
  clear hS
  intro t1 V3 hs hold hout hall hne hS
  replace HS := hs.trans HS
  replace hS := hS.1
  obtain ⟨g7, h7, b7, r7⟩ : ∃ g, t1[7]? = some (.pointer (some ⟨g, 0, none⟩)) ∧ M ≤ g ∧ ∃ cs ty, V3.heap[g]? = some (.cells cs ty (0, 0)) ∧ cs.size = 5 := by
    obtain ⟨g, p1, p2, ty, cs, p3, p4⟩ := hall 2 (by omega) 5 rfl
    exact ⟨g, p1, p2, cs, ty, p3, p4⟩
  obtain ⟨g8, h8, b8, r8⟩ : ∃ g, t1[8]? = some (.pointer (some ⟨g, 0, none⟩)) ∧ M ≤ g ∧ ∃ cs ty, V3.heap[g]? = some (.cells cs ty (0, 0)) ∧ cs.size = 5 := by
    obtain ⟨g, p1, p2, ty, cs, p3, p4⟩ := hall 3 (by omega) 5 rfl
    exact ⟨g, p1, p2, cs, ty, p3, p4⟩
  have n7_8 : g7 ≠ g8 := fun h => hne 2 3 (by omega) (by omega) (by omega) rfl rfl (show t1[7]? = t1[8]? by rw [h7, h8, h])
  replace hS : Own w [(w.heap.size, 32, (· = .agg (vals Lk))), ((w.heap.size + 1), 32, (· = .agg (vals Lu))), ((w.heap.size + 1 + 1), 32, (fun _ => True)), (gn, 32, (· = .agg (vals (bytesN V)))), (g6, 5, IsEl x1), (g7, 5, (fun _ => True))] V3 := hS.add (Nat.le_trans hMB b7) (fun r hr => Nat.ne_of_lt (Nat.lt_of_lt_of_le (ltM r hr) b7)) (Own.any r7)
  replace hS : Own w [(w.heap.size, 32, (· = .agg (vals Lk))), ((w.heap.size + 1), 32, (· = .agg (vals Lu))), ((w.heap.size + 1 + 1), 32, (fun _ => True)), (gn, 32, (· = .agg (vals (bytesN V)))), (g6, 5, IsEl x1), (g7, 5, (fun _ => True)), (g8, 5, (fun _ => True))] V3 := hS.add (Nat.le_trans hMB b8) (Own.ne_app (g1 := g7) (fun r hr => Nat.ne_of_lt (Nat.lt_of_lt_of_le (ltM r hr) b8)) n7_8) (Own.any r8)
  obtain ⟨x26, q26, v26⟩ : ∃ x, t1[26]? = some x ∧ (IsEl (1 : F)) x := hout 0 (by omega) rfl
  obtain ⟨x27, q27, v27⟩ : ∃ x, t1[27]? = some x ∧ (IsEl (0 : F)) x := hout 1 (by omega) rfl
  replace h2 := (hold 2 (slots_not (by kernel_rfl))).trans h2
  replace h3 := (hold 3 (slots_not (by kernel_rfl))).trans h3
  replace h4 := (hold 4 (slots_not (by kernel_rfl))).trans h4
  replace h5 := (hold 5 (slots_not (by kernel_rfl))).trans h5
  replace h6 := (hold 6 (slots_not (by kernel_rfl))).trans h6
  clear hold hout hs hall hne
  simp only [List.drop_succ_cons, List.drop_zero]
  refine st_own 5 tElem rfl (.tmp 7) (.tmp 26) rfl rfl _ _ (eval_tmp h7) (eval_tmp q26) (V' := IsEl (1 : F)) v26 (fun x hx => el_row hx) hS 5 rfl fun V3' hS' _ => ?_
  replace hS : Own w [(w.heap.size, 32, (· = .agg (vals Lk))), ((w.heap.size + 1), 32, (· = .agg (vals Lu))), ((w.heap.size + 1 + 1), 32, (fun _ => True)), (gn, 32, (· = .agg (vals (bytesN V)))), (g6, 5, IsEl x1), (g7, 5, IsEl (1 : F)), (g8, 5, (fun _ => True))] V3' := hS'
  clear hS'
  refine st_own 5 tElem rfl (.tmp 8) (.tmp 27) rfl rfl _ _ (eval_tmp h8) (eval_tmp q27) (V' := IsEl (0 : F)) v27 (fun x hx => el_row hx) hS 6 rfl fun V3'' hS' _ => ?_
  replace hS : Own w [(w.heap.size, 32, (· = .agg (vals Lk))), ((w.heap.size + 1), 32, (· = .agg (vals Lu))), ((w.heap.size + 1 + 1), 32, (fun _ => True)), (gn, 32, (· = .agg (vals (bytesN V)))), (g6, 5, IsEl x1), (g7, 5, IsEl (1 : F)), (g8, 5, IsEl (0 : F))] V3'' := hS'
  clear hS'
  refine wpList_nil ?_
  obtain ⟨f, e0, hf⟩ := wash HS
  have f2 := hf 2 _ h2
  have f3 := hf 3 _ h3
  have f4 := hf 4 _ h4
  have f5 := hf 5 _ h5
  have f6 := hf 6 _ h6
  have f7 := hf 7 _ h7
  have f8 := hf 8 _ h8
  clear hf
  rw [e0.trans (show _ = #[f 0, f 1, f 2, f 3, f 4, f 5, f 6, f 7, f 8, f 9, f 10, f 11, f 12, f 13, f 14, f 15, f 16, f 17, f 18, f 19, f 20, f 21, f 22, f 23, f 24, f 25, f 26, f 27, f 28, f 29, f 30, f 31, f 32, f 33, f 34, f 35, f 36, f 37, f 38, f 39, f 40, f 41, f 42, f 43, f 44, f 45, f 46, f 47, f 48, f 49, f 50, f 51, f 52, f 53, f 54, f 55, f 56, f 57, f 58, f 59, f 60, f 61, f 62, f 63, f 64, f 65, f 66, f 67, f 68, f 69, f 70, f 71, f 72, f 73, f 74, f 75, f 76, f 77, f 78, f 79, f 80, f 81, f 82, f 83, f 84, f 85, f 86, f 87, f 88, f 89, f 90, f 91, f 92, f 93, f 94, f 95, f 96, f 97, f 98, f 99, f 100, f 101, f 102, f 103, f 104, f 105, f 106, f 107, f 108, f 109, f 110, f 111, f 112, f 113, f 114, f 115, f 116, f 117, f 118, f 119, f 120, f 121, f 122, f 123, f 124] from by kernel_rfl), f2, f3, f4, f5, f6, f7, f8]
  clear f2 f3 f4 f5 f6 f7 f8
  clear e0
  dsimp only
  clear h2 h3 h4 h5 h6 h7 h8 q26 q27 v26 v27 b7 b8 r7 r8 n7_8 ltM hMB hM HS t1 t0 M
  go_wp2_with ((with_reducible refine guard_list ?_); first | (refine held_load 26 _ rfl ?_) | (refine held_load 22 _ rfl ?_) | (refine held_load 68 _ rfl ?_) | (refine held_call _ rfl ?_))
  obtain ⟨M, hM⟩ : ∃ M, M = V3''.heap.size := ⟨_, rfl⟩
  have hMB : w.heap.size ≤ M := hM ▸ hS.1.size
  have ltM := hS.lt
  rw [← hM] at ltM
  refine hide_frame fun t0 HT => ?_
  have HS : t0.size = 125 := by rw [HT]; rfl
  have h2 : t0[2]? = some (.pointer (some ⟨w.heap.size, 0, none⟩)) := by rw [HT]; rfl
  have h3 : t0[3]? = some (.pointer (some ⟨(w.heap.size + 1), 0, none⟩)) := by rw [HT]; rfl
  have h4 : t0[4]? = some (.pointer (some ⟨(w.heap.size + 1 + 1), 0, none⟩)) := by rw [HT]; rfl
  have h5 : t0[5]? = some (.pointer (some ⟨gn, 0, none⟩)) := by rw [HT]; rfl
  have h6 : t0[6]? = some (.pointer (some ⟨g6, 0, none⟩)) := by rw [HT]; rfl
  have h7 : t0[7]? = some (.pointer (some ⟨g7, 0, none⟩)) := by rw [HT]; rfl
  have h8 : t0[8]? = some (.pointer (some ⟨g8, 0, none⟩)) := by rw [HT]; rfl
  clear HT
  refine wp_region_most 4 (fun i => [28, 29, 9, 10].getD i 0) (fun i => [none, none, some 5, some 5].getD i none) (fun i => [IsEl x1, IsEl (1 : F), (fun _ => True), (fun _ => True)].getD i (fun _ => True)) (fun w' => Own w [(w.heap.size, 32, (· = .agg (vals Lk))), ((w.heap.size + 1), 32, (· = .agg (vals Lu))), ((w.heap.size + 1 + 1), 32, (fun _ => True)), (gn, 32, (· = .agg (vals (bytesN V)))), (g6, 5, IsEl x1), (g7, 5, IsEl (1 : F)), (g8, 5, IsEl (0 : F))] w' ∧ M ≤ w'.heap.size) M
    (by kernel_rfl) (by kernel_rfl) (slots_apart (by kernel_rfl)) (slots_lie (by rw [HS]; kernel_rfl)) ⟨hS.drew, Nat.le_of_eq hM⟩ (fun w' h => h.2) (fun w1 w2 h b => ⟨h.1.keep b, Nat.le_trans h.2 b.size⟩) ?_ ?_ ?_
  · clear hS
    intro i o hi ho hA
    have hc : i = 0 ∨ i = 1 ∨ i = 2 ∨ i = 3 := by omega
    rcases hc with rfl | rfl | rfl | rfl
    · obtain rfl := Option.some.inj ho
      refine ⟨rfl, fun a w' hS hold hin K hK => ?_⟩
      refine if_always rfl ?_
      exact op_ld_own 5 tElem (.tmp 6) rfl rfl _ (eval_tmp ((hold 6 (slots_not (by kernel_rfl))).trans h6)) hS.1 4 rfl hK
    · obtain rfl := Option.some.inj ho
      refine ⟨rfl, fun a w' hS hold hin K hK => ?_⟩
      refine if_always rfl ?_
      exact op_fn1 _ _ _ _ rfl rfl rfl (by intro args w; kernel_rfl) (small_evl 1 (by omega) (by decide) _) hK
    · cases hA
    · cases hA
  · intro i o sz hi ho hA
    have hc : i = 0 ∨ i = 1 ∨ i = 2 ∨ i = 3 := by omega
    rcases hc with rfl | rfl | rfl | rfl
    · cases hA
    · cases hA
    · obtain rfl := Option.some.inj ho
      obtain rfl := Option.some.inj hA
      exact ⟨rfl, rfl, 26, #[.int .u64 0, .int .u64 0, .int .u64 0, .int .u64 0, .int .u64 0], rfl, fun a w' K h => wp_new 26 #[.int .u64 0, .int .u64 0, .int .u64 0, .int .u64 0, .int .u64 0] (fun w => by kernel_rfl) h⟩
    · obtain rfl := Option.some.inj ho
      obtain rfl := Option.some.inj hA
      exact ⟨rfl, rfl, 26, #[.int .u64 0, .int .u64 0, .int .u64 0, .int .u64 0, .int .u64 0], rfl, fun a w' K h => wp_new 26 #[.int .u64 0, .int .u64 0, .int .u64 0, .int .u64 0, .int .u64 0] (fun w => by kernel_rfl) h⟩
  clear hS
  intro t1 V4 hs hold hout hall hne hS
  replace HS := hs.trans HS
  replace hS := hS.1
  obtain ⟨g9, h9, b9, r9⟩ : ∃ g, t1[9]? = some (.pointer (some ⟨g, 0, none⟩)) ∧ M ≤ g ∧ ∃ cs ty, V4.heap[g]? = some (.cells cs ty (0, 0)) ∧ cs.size = 5 := by
    obtain ⟨g, p1, p2, ty, cs, p3, p4⟩ := hall 2 (by omega) 5 rfl
    exact ⟨g, p1, p2, cs, ty, p3, p4⟩
  obtain ⟨g10, h10, b10, r10⟩ : ∃ g, t1[10]? = some (.pointer (some ⟨g, 0, none⟩)) ∧ M ≤ g ∧ ∃ cs ty, V4.heap[g]? = some (.cells cs ty (0, 0)) ∧ cs.size = 5 := by
    obtain ⟨g, p1, p2, ty, cs, p3, p4⟩ := hall 3 (by omega) 5 rfl
    exact ⟨g, p1, p2, cs, ty, p3, p4⟩
  have n9_10 : g9 ≠ g10 := fun h => hne 2 3 (by omega) (by omega) (by omega) rfl rfl (show t1[9]? = t1[10]? by rw [h9, h10, h])
  replace hS : Own w [(w.heap.size, 32, (· = .agg (vals Lk))), ((w.heap.size + 1), 32, (· = .agg (vals Lu))), ((w.heap.size + 1 + 1), 32, (fun _ => True)), (gn, 32, (· = .agg (vals (bytesN V)))), (g6, 5, IsEl x1), (g7, 5, IsEl (1 : F)), (g8, 5, IsEl (0 : F)), (g9, 5, (fun _ => True))] V4 := hS.add (Nat.le_trans hMB b9) (fun r hr => Nat.ne_of_lt (Nat.lt_of_lt_of_le (ltM r hr) b9)) (Own.any r9)
  replace hS : Own w [(w.heap.size, 32, (· = .agg (vals Lk))), ((w.heap.size + 1), 32, (· = .agg (vals Lu))), ((w.heap.size + 1 + 1), 32, (fun _ => True)), (gn, 32, (· = .agg (vals (bytesN V)))), (g6, 5, IsEl x1), (g7, 5, IsEl (1 : F)), (g8, 5, IsEl (0 : F)), (g9, 5, (fun _ => True)), (g10, 5, (fun _ => True))] V4 := hS.add (Nat.le_trans hMB b10) (Own.ne_app (g1 := g9) (fun r hr => Nat.ne_of_lt (Nat.lt_of_lt_of_le (ltM r hr) b10)) n9_10) (Own.any r10)
  obtain ⟨x28, q28, v28⟩ : ∃ x, t1[28]? = some x ∧ (IsEl x1) x := hout 0 (by omega) rfl
  obtain ⟨x29, q29, v29⟩ : ∃ x, t1[29]? = some x ∧ (IsEl (1 : F)) x := hout 1 (by omega) rfl
  replace h2 := (hold 2 (slots_not (by kernel_rfl))).trans h2
  replace h3 := (hold 3 (slots_not (by kernel_rfl))).trans h3
  replace h4 := (hold 4 (slots_not (by kernel_rfl))).trans h4
  replace h5 := (hold 5 (slots_not (by kernel_rfl))).trans h5
  replace h6 := (hold 6 (slots_not (by kernel_rfl))).trans h6
  replace h7 := (hold 7 (slots_not (by kernel_rfl))).trans h7
  replace h8 := (hold 8 (slots_not (by kernel_rfl))).trans h8
  clear hold hout hs hall hne
  simp only [List.drop_succ_cons, List.drop_zero]
  refine st_own 5 tElem rfl (.tmp 9) (.tmp 28) rfl rfl _ _ (eval_tmp h9) (eval_tmp q28) (V' := IsEl x1) v28 (fun x hx => el_row hx) hS 7 rfl fun V4' hS' _ => ?_
  replace hS : Own w [(w.heap.size, 32, (· = .agg (vals Lk))), ((w.heap.size + 1), 32, (· = .agg (vals Lu))), ((w.heap.size + 1 + 1), 32, (fun _ => True)), (gn, 32, (· = .agg (vals (bytesN V)))), (g6, 5, IsEl x1), (g7, 5, IsEl (1 : F)), (g8, 5, IsEl (0 : F)), (g9, 5, IsEl x1), (g10, 5, (fun _ => True))] V4' := hS'
  clear hS'
  refine st_own 5 tElem rfl (.tmp 10) (.tmp 29) rfl rfl _ _ (eval_tmp h10) (eval_tmp q29) (V' := IsEl (1 : F)) v29 (fun x hx => el_row hx) hS 8 rfl fun V4'' hS' _ => ?_
  replace hS : Own w [(w.heap.size, 32, (· = .agg (vals Lk))), ((w.heap.size + 1), 32, (· = .agg (vals Lu))), ((w.heap.size + 1 + 1), 32, (fun _ => True)), (gn, 32, (· = .agg (vals (bytesN V)))), (g6, 5, IsEl x1), (g7, 5, IsEl (1 : F)), (g8, 5, IsEl (0 : F)), (g9, 5, IsEl x1), (g10, 5, IsEl (1 : F))] V4'' := hS'
  clear hS'
  refine wpList_nil ?_
  obtain ⟨f, e0, hf⟩ := wash HS
  have f2 := hf 2 _ h2
  have f3 := hf 3 _ h3
  have f4 := hf 4 _ h4
  have f5 := hf 5 _ h5
  have f6 := hf 6 _ h6
  have f7 := hf 7 _ h7
  have f8 := hf 8 _ h8
  have f9 := hf 9 _ h9
  have f10 := hf 10 _ h10
  clear hf
  rw [e0.trans (show _ = #[f 0, f 1, f 2, f 3, f 4, f 5, f 6, f 7, f 8, f 9, f 10, f 11, f 12, f 13, f 14, f 15, f 16, f 17, f 18, f 19, f 20, f 21, f 22, f 23, f 24, f 25, f 26, f 27, f 28, f 29, f 30, f 31, f 32, f 33, f 34, f 35, f 36, f 37, f 38, f 39, f 40, f 41, f 42, f 43, f 44, f 45, f 46, f 47, f 48, f 49, f 50, f 51, f 52, f 53, f 54, f 55, f 56, f 57, f 58, f 59, f 60, f 61, f 62, f 63, f 64, f 65, f 66, f 67, f 68, f 69, f 70, f 71, f 72, f 73, f 74, f 75, f 76, f 77, f 78, f 79, f 80, f 81, f 82, f 83, f 84, f 85, f 86, f 87, f 88, f 89, f 90, f 91, f 92, f 93, f 94, f 95, f 96, f 97, f 98, f 99, f 100, f 101, f 102, f 103, f 104, f 105, f 106, f 107, f 108, f 109, f 110, f 111, f 112, f 113, f 114, f 115, f 116, f 117, f 118, f 119, f 120, f 121, f 122, f 123, f 124] from by kernel_rfl), f2, f3, f4, f5, f6, f7, f8, f9, f10]
  clear f2 f3 f4 f5 f6 f7 f8 f9 f10
  clear e0
  dsimp only
  clear h2 h3 h4 h5 h6 h7 h8 h9 h10 q28 q29 v28 v29 b9 b10 r9 r10 n9_10 ltM hMB hM HS t1 t0 M
  have hlad : lad x1 V 255 (swp false (((1 : F), (0 : F)), (x1, (1 : F)))) = lad x1 V 255 ((1, 0), (x1, 1)) := rfl
  obtain ⟨RR, hRR⟩ : ∃ r, r = lad x1 V 255 ((1, 0), (x1, 1)) := ⟨_, rfl⟩
  rw [← hRR] at hlad
  have HRR := Lib.hid hRR
  have HLAD := Lib.hid hlad
  clear hRR hlad
  go_wp2_with fail
  go_loopw [11, 12] (fun last i wr => ∃ (k : Nat) (b : Bool) (p2 q2 p3 q3 : F), k ≤ 255 ∧ i = .int .i64 ((k : Int) - 1) ∧ last = .int .u64 (b.toNat : Int) ∧ b = decide (V / 2 ^ k % 2 = 1) ∧ lad x1 V k (swp b ((p2, q2), (p3, q3))) = RR ∧ Own w [(w.heap.size, 32, (· = .agg (vals Lk))), ((w.heap.size + 1), 32, (· = .agg (vals Lu))), ((w.heap.size + 1 + 1), 32, (fun _ => True)), (gn, 32, (· = .agg (vals (bytesN V)))), (g6, 5, IsEl x1), (g7, 5, IsEl p2), (g8, 5, IsEl q2), (g9, 5, IsEl p3), (g10, 5, IsEl q3)] wr) (fun _ i _ => (intOf i + 1).toNat)
  case atStart => exact ⟨255, false, 1, 0, x1, 1, by omega, rfl, rfl, (by rw [Nat.div_eq_of_lt HV2.out]; rfl), HLAD.out, hS⟩
  case round =>
    obtain ⟨k, b, p2, q2, p3, q3, hk, rfl, rfl, hb, hl, hS0⟩ := hrel
    have hS1 := Lib.hid hS0
    have HB := Lib.hid hb
    have HL := Lib.hid hl
    clear hS hS0 hb hl
    cases k with
    | zero =>
      go_wp2_with ((with_reducible refine guard_list ?_); first | (refine held_load 26 _ rfl ?_) | (refine held_load 22 _ rfl ?_) | (refine held_load 68 _ rfl ?_))
      have hS := hS1.out
      clear hS1
      obtain ⟨xx, hxx⟩ : ∃ x, x = selF b p3 p2 := ⟨_, rfl⟩
      obtain ⟨zz, hzz⟩ : ∃ x, x = selF b q3 q2 := ⟨_, rfl⟩
      obtain ⟨iv, hiv⟩ : ∃ x, x = inv zz := ⟨_, rfl⟩
      have hval : (xx * iv).val = R.val := by
        have h1 := HL.out
        have h2 : swp b ((p2, q2), (p3, q3)) = RR := h1
        have h3 := HR.out
        rw [HRR.out] at h2
        have h4 : (lad x1 V 255 ((1, 0), (x1, 1))).1.1 * inv (lad x1 V 255 ((1, 0), (x1, 1))).1.2 = R := h3
        rw [← h2] at h4
        rw [← h4, hiv, hxx, hzz]
        cases b <;> rfl
      have Hhxx := Lib.hid hxx
      have Hhzz := Lib.hid hzz
      have Hhiv := Lib.hid hiv
      have Hhval := Lib.hid hval
      clear hxx hzz hiv hval
      obtain ⟨yy, hyy⟩ : ∃ x, x = selF b p2 p3 := ⟨_, rfl⟩
      obtain ⟨ww, hww⟩ : ∃ x, x = selF b q2 q3 := ⟨_, rfl⟩
      have Hhyy := Lib.hid hyy
      have Hhww := Lib.hid hww
      clear hyy hww
      obtain ⟨M, hM⟩ : ∃ M, M = wr.heap.size := ⟨_, rfl⟩
      refine hide_held fun t0 HT => ?_
      have HS : t0.size = 125 := by rw [HT]; rfl
      have h4 : t0[4]? = some (.pointer (some ⟨(w.heap.size + 1 + 1), 0, none⟩)) := by rw [HT]; rfl
      have h5 : t0[5]? = some (.pointer (some ⟨gn, 0, none⟩)) := by rw [HT]; rfl
      have h6 : t0[6]? = some (.pointer (some ⟨g6, 0, none⟩)) := by rw [HT]; rfl
      have h7 : t0[7]? = some (.pointer (some ⟨g7, 0, none⟩)) := by rw [HT]; rfl
      have h8 : t0[8]? = some (.pointer (some ⟨g8, 0, none⟩)) := by rw [HT]; rfl
      have h9 : t0[9]? = some (.pointer (some ⟨g9, 0, none⟩)) := by rw [HT]; rfl
      have h10 : t0[10]? = some (.pointer (some ⟨g10, 0, none⟩)) := by rw [HT]; rfl
      have h11 : t0[11]? = some (.int .u64 (b.toNat : Int)) := by rw [HT]; rfl
      refine wp_from_most 8 (fun i => [105, 106, 107, 108, 109, 104, 110, 111].getD i 0) (fun _ => none) (fun i => [(· = .int .u64 (b.toNat : Int)), (· = .int .u64 (IntKind.u64.wrap (-(b.toNat : Int)))), IsEl p2, IsEl p3, IsEl2 xx yy, IsEl2 xx yy, IsEl xx, IsEl yy].getD i (fun _ => True)) (fun w' => Own w [(w.heap.size, 32, (· = .agg (vals Lk))), ((w.heap.size + 1), 32, (· = .agg (vals Lu))), ((w.heap.size + 1 + 1), 32, (fun _ => True)), (gn, 32, (· = .agg (vals (bytesN V)))), (g6, 5, IsEl x1), (g7, 5, IsEl p2), (g8, 5, IsEl q2), (g9, 5, IsEl p3), (g10, 5, IsEl q3)] w' ∧ M ≤ w'.heap.size) M
        2 (by omega) (by kernel_rfl) ?_ (slots_apart (by kernel_rfl)) (slots_lie (by rw [HS]; kernel_rfl)) ⟨hS, Nat.le_of_eq hM⟩ (fun w' h => h.2) (fun w1 w2 h b => ⟨h.1.keep b, Nat.le_trans h.2 b.size⟩) ?_ ?_ ?_
      · intro j hj _
        have hc : j = 0 ∨ j = 1 := by omega
        rcases hc with rfl | rfl
        · exact ⟨rfl, _, by rw [HT]; rfl, rfl⟩
        · exact ⟨rfl, _, by rw [HT]; rfl, rfl⟩
      · clear hS
        intro i o h0i hi ho hA
        have hc : i = 2 ∨ i = 3 ∨ i = 4 ∨ i = 5 ∨ i = 6 ∨ i = 7 := by omega
        rcases hc with rfl | rfl | rfl | rfl | rfl | rfl
        · obtain rfl := Option.some.inj ho
          refine ⟨rfl, fun a w' hS hold hin K hK => ?_⟩
          refine if_always rfl ?_
          exact op_ld_own 5 tElem (.tmp 7) rfl rfl _ (eval_tmp ((hold 7 (slots_not (by kernel_rfl))).trans h7)) hS.1 5 rfl hK
        · obtain rfl := Option.some.inj ho
          refine ⟨rfl, fun a w' hS hold hin K hK => ?_⟩
          refine if_always rfl ?_
          exact op_ld_own 5 tElem (.tmp 9) rfl rfl _ (eval_tmp ((hold 9 (slots_not (by kernel_rfl))).trans h9)) hS.1 7 rfl hK
        · obtain rfl := Option.some.inj ho
          refine ⟨rfl, fun a w' hS hold hin K hK => ?_⟩
          obtain ⟨y1, x1, rfl⟩ := hin 1 rfl (by omega) rfl
          obtain ⟨y2, x2, (v2 : IsEl p2 y2)⟩ := hin 2 rfl (by omega) rfl
          obtain ⟨y3, x3, (v3 : IsEl p3 y3)⟩ := hin 3 rfl (by omega) rfl
          refine if_always rfl ?_
          exact op_fn3 _ _ _ _ _ _ _ _ rfl rfl (eval_tmp x1) (eval_tmp x2) (eval_tmp x3) (by intro args w; kernel_rfl) (swap_evn b (neg_bit b) v2 v3 Hhxx.out Hhyy.out _) hK
        · obtain rfl := Option.some.inj ho
          refine ⟨rfl, fun a w' hS hold hin K hK => ?_⟩
          obtain ⟨y4, x4, (v4 : IsEl2 xx yy y4)⟩ := hin 4 rfl (by omega) rfl
          refine if_always rfl ?_
          exact op_move (V := IsEl2 xx yy) _ _ rfl rfl (eval_tmp x4) v4 hK
        · obtain rfl := Option.some.inj ho
          refine ⟨rfl, fun a w' hS hold hin K hK => ?_⟩
          obtain ⟨y5, x5, (v5 : IsEl2 xx yy y5)⟩ := hin 5 rfl (by omega) rfl
          refine if_always rfl ?_
          exact op_ext0 _ rfl rfl (eval_tmp x5) v5 hK
        · obtain rfl := Option.some.inj ho
          refine ⟨rfl, fun a w' hS hold hin K hK => ?_⟩
          obtain ⟨y5, x5, (v5 : IsEl2 xx yy y5)⟩ := hin 5 rfl (by omega) rfl
          refine if_always rfl ?_
          exact op_ext1 _ rfl rfl (eval_tmp x5) v5 hK
      · intro i o sz h0i hi ho hA; cases hA
      clear hS
      intro t1 V5 hs hold hout hall hne hS
      replace HS := hs.trans HS
      replace hS := hS.1
      obtain ⟨x110, q110, v110⟩ : ∃ x, t1[110]? = some x ∧ (IsEl xx) x := hout 6 (by omega) rfl
      replace h4 := (hold 4 (slots_not (by kernel_rfl))).trans h4
      replace h5 := (hold 5 (slots_not (by kernel_rfl))).trans h5
      replace h6 := (hold 6 (slots_not (by kernel_rfl))).trans h6
      replace h7 := (hold 7 (slots_not (by kernel_rfl))).trans h7
      replace h8 := (hold 8 (slots_not (by kernel_rfl))).trans h8
      replace h9 := (hold 9 (slots_not (by kernel_rfl))).trans h9
      replace h10 := (hold 10 (slots_not (by kernel_rfl))).trans h10
      replace h11 := (hold 11 (slots_not (by kernel_rfl))).trans h11
      clear hold hout hs hall hne
      simp only [List.drop_succ_cons, List.drop_zero]
      refine st_own 5 tElem rfl (.tmp 7) (.tmp 110) rfl rfl _ _ (eval_tmp h7) (eval_tmp q110) (V' := IsEl xx) v110 (fun x hx => el_row hx) hS 5 rfl fun V5' hS' _ => ?_
      replace hS : Own w [(w.heap.size, 32, (· = .agg (vals Lk))), ((w.heap.size + 1), 32, (· = .agg (vals Lu))), ((w.heap.size + 1 + 1), 32, (fun _ => True)), (gn, 32, (· = .agg (vals (bytesN V)))), (g6, 5, IsEl x1), (g7, 5, IsEl xx), (g8, 5, IsEl q2), (g9, 5, IsEl p3), (g10, 5, IsEl q3)] V5' := hS'
      clear hS'
      refine wpList_nil ?_
      clear HT
      obtain ⟨f, e0, hf⟩ := wash HS
      have f4 := hf 4 _ h4
      have f5 := hf 5 _ h5
      have f6 := hf 6 _ h6
      have f7 := hf 7 _ h7
      have f8 := hf 8 _ h8
      have f9 := hf 9 _ h9
      have f10 := hf 10 _ h10
      have f11 := hf 11 _ h11
      clear hf
      rw [e0.trans (show _ = #[f 0, f 1, f 2, f 3, f 4, f 5, f 6, f 7, f 8, f 9, f 10, f 11, f 12, f 13, f 14, f 15, f 16, f 17, f 18, f 19, f 20, f 21, f 22, f 23, f 24, f 25, f 26, f 27, f 28, f 29, f 30, f 31, f 32, f 33, f 34, f 35, f 36, f 37, f 38, f 39, f 40, f 41, f 42, f 43, f 44, f 45, f 46, f 47, f 48, f 49, f 50, f 51, f 52, f 53, f 54, f 55, f 56, f 57, f 58, f 59, f 60, f 61, f 62, f 63, f 64, f 65, f 66, f 67, f 68, f 69, f 70, f 71, f 72, f 73, f 74, f 75, f 76, f 77, f 78, f 79, f 80, f 81, f 82, f 83, f 84, f 85, f 86, f 87, f 88, f 89, f 90, f 91, f 92, f 93, f 94, f 95, f 96, f 97, f 98, f 99, f 100, f 101, f 102, f 103, f 104, f 105, f 106, f 107, f 108, f 109, f 110, f 111, f 112, f 113, f 114, f 115, f 116, f 117, f 118, f 119, f 120, f 121, f 122, f 123, f 124] from by kernel_rfl), f4, f5, f6, f7, f8, f9, f10, f11]
      clear f4 f5 f6 f7 f8 f9 f10 f11
      clear e0
      dsimp only
      clear h4 h5 h6 h7 h8 h9 h10 h11 q110 v110 hM HS t1 t0 M
      go_wp2_with ((with_reducible refine guard_list ?_); first | (refine held_load 26 _ rfl ?_) | (refine held_load 22 _ rfl ?_) | (refine held_load 68 _ rfl ?_))
      obtain ⟨M, hM⟩ : ∃ M, M = V5'.heap.size := ⟨_, rfl⟩
      refine hide_held fun t0 HT => ?_
      have HS : t0.size = 125 := by rw [HT]; rfl
      have h4 : t0[4]? = some (.pointer (some ⟨(w.heap.size + 1 + 1), 0, none⟩)) := by rw [HT]; rfl
      have h5 : t0[5]? = some (.pointer (some ⟨gn, 0, none⟩)) := by rw [HT]; rfl
      have h6 : t0[6]? = some (.pointer (some ⟨g6, 0, none⟩)) := by rw [HT]; rfl
      have h7 : t0[7]? = some (.pointer (some ⟨g7, 0, none⟩)) := by rw [HT]; rfl
      have h8 : t0[8]? = some (.pointer (some ⟨g8, 0, none⟩)) := by rw [HT]; rfl
      have h9 : t0[9]? = some (.pointer (some ⟨g9, 0, none⟩)) := by rw [HT]; rfl
      have h10 : t0[10]? = some (.pointer (some ⟨g10, 0, none⟩)) := by rw [HT]; rfl
      have h11 : t0[11]? = some (.int .u64 (b.toNat : Int)) := by rw [HT]; rfl
      refine wp_from_most 8 (fun i => [113, 114, 115, 116, 117, 112, 118, 119].getD i 0) (fun _ => none) (fun i => [(· = .int .u64 (b.toNat : Int)), (· = .int .u64 (IntKind.u64.wrap (-(b.toNat : Int)))), IsEl q2, IsEl q3, IsEl2 zz ww, IsEl2 zz ww, IsEl zz, IsEl ww].getD i (fun _ => True)) (fun w' => Own w [(w.heap.size, 32, (· = .agg (vals Lk))), ((w.heap.size + 1), 32, (· = .agg (vals Lu))), ((w.heap.size + 1 + 1), 32, (fun _ => True)), (gn, 32, (· = .agg (vals (bytesN V)))), (g6, 5, IsEl x1), (g7, 5, IsEl xx), (g8, 5, IsEl q2), (g9, 5, IsEl p3), (g10, 5, IsEl q3)] w' ∧ M ≤ w'.heap.size) M
        2 (by omega) (by kernel_rfl) ?_ (slots_apart (by kernel_rfl)) (slots_lie (by rw [HS]; kernel_rfl)) ⟨hS, Nat.le_of_eq hM⟩ (fun w' h => h.2) (fun w1 w2 h b => ⟨h.1.keep b, Nat.le_trans h.2 b.size⟩) ?_ ?_ ?_
      · intro j hj _
        have hc : j = 0 ∨ j = 1 := by omega
        rcases hc with rfl | rfl
        · exact ⟨rfl, _, by rw [HT]; rfl, rfl⟩
        · exact ⟨rfl, _, by rw [HT]; rfl, rfl⟩
      · clear hS
        intro i o h0i hi ho hA
        have hc : i = 2 ∨ i = 3 ∨ i = 4 ∨ i = 5 ∨ i = 6 ∨ i = 7 := by omega
        rcases hc with rfl | rfl | rfl | rfl | rfl | rfl
        · obtain rfl := Option.some.inj ho
          refine ⟨rfl, fun a w' hS hold hin K hK => ?_⟩
          refine if_always rfl ?_
          exact op_ld_own 5 tElem (.tmp 8) rfl rfl _ (eval_tmp ((hold 8 (slots_not (by kernel_rfl))).trans h8)) hS.1 6 rfl hK
        · obtain rfl := Option.some.inj ho
          refine ⟨rfl, fun a w' hS hold hin K hK => ?_⟩
          refine if_always rfl ?_
          exact op_ld_own 5 tElem (.tmp 10) rfl rfl _ (eval_tmp ((hold 10 (slots_not (by kernel_rfl))).trans h10)) hS.1 8 rfl hK
        · obtain rfl := Option.some.inj ho
          refine ⟨rfl, fun a w' hS hold hin K hK => ?_⟩
          obtain ⟨y1, x1, rfl⟩ := hin 1 rfl (by omega) rfl
          obtain ⟨y2, x2, (v2 : IsEl q2 y2)⟩ := hin 2 rfl (by omega) rfl
          obtain ⟨y3, x3, (v3 : IsEl q3 y3)⟩ := hin 3 rfl (by omega) rfl
          refine if_always rfl ?_
          exact op_fn3 _ _ _ _ _ _ _ _ rfl rfl (eval_tmp x1) (eval_tmp x2) (eval_tmp x3) (by intro args w; kernel_rfl) (swap_evn b (neg_bit b) v2 v3 Hhzz.out Hhww.out _) hK
        · obtain rfl := Option.some.inj ho
          refine ⟨rfl, fun a w' hS hold hin K hK => ?_⟩
          obtain ⟨y4, x4, (v4 : IsEl2 zz ww y4)⟩ := hin 4 rfl (by omega) rfl
          refine if_always rfl ?_
          exact op_move (V := IsEl2 zz ww) _ _ rfl rfl (eval_tmp x4) v4 hK
        · obtain rfl := Option.some.inj ho
          refine ⟨rfl, fun a w' hS hold hin K hK => ?_⟩
          obtain ⟨y5, x5, (v5 : IsEl2 zz ww y5)⟩ := hin 5 rfl (by omega) rfl
          refine if_always rfl ?_
          exact op_ext0 _ rfl rfl (eval_tmp x5) v5 hK
        · obtain rfl := Option.some.inj ho
          refine ⟨rfl, fun a w' hS hold hin K hK => ?_⟩
          obtain ⟨y5, x5, (v5 : IsEl2 zz ww y5)⟩ := hin 5 rfl (by omega) rfl
          refine if_always rfl ?_
          exact op_ext1 _ rfl rfl (eval_tmp x5) v5 hK
      · intro i o sz h0i hi ho hA; cases hA
      clear hS
      intro t1 V6 hs hold hout hall hne hS
      replace HS := hs.trans HS
      replace hS := hS.1
      obtain ⟨x118, q118, v118⟩ : ∃ x, t1[118]? = some x ∧ (IsEl zz) x := hout 6 (by omega) rfl
      replace h4 := (hold 4 (slots_not (by kernel_rfl))).trans h4
      replace h5 := (hold 5 (slots_not (by kernel_rfl))).trans h5
      replace h6 := (hold 6 (slots_not (by kernel_rfl))).trans h6
      replace h7 := (hold 7 (slots_not (by kernel_rfl))).trans h7
      replace h8 := (hold 8 (slots_not (by kernel_rfl))).trans h8
      replace h9 := (hold 9 (slots_not (by kernel_rfl))).trans h9
      replace h10 := (hold 10 (slots_not (by kernel_rfl))).trans h10
      replace h11 := (hold 11 (slots_not (by kernel_rfl))).trans h11
      clear hold hout hs hall hne
      simp only [List.drop_succ_cons, List.drop_zero]
      refine st_own 5 tElem rfl (.tmp 8) (.tmp 118) rfl rfl _ _ (eval_tmp h8) (eval_tmp q118) (V' := IsEl zz) v118 (fun x hx => el_row hx) hS 6 rfl fun V6' hS' _ => ?_
      replace hS : Own w [(w.heap.size, 32, (· = .agg (vals Lk))), ((w.heap.size + 1), 32, (· = .agg (vals Lu))), ((w.heap.size + 1 + 1), 32, (fun _ => True)), (gn, 32, (· = .agg (vals (bytesN V)))), (g6, 5, IsEl x1), (g7, 5, IsEl xx), (g8, 5, IsEl zz), (g9, 5, IsEl p3), (g10, 5, IsEl q3)] V6' := hS'
      clear hS'
      refine wpList_nil ?_
      clear HT
      obtain ⟨f, e0, hf⟩ := wash HS
      have f4 := hf 4 _ h4
      have f5 := hf 5 _ h5
      have f6 := hf 6 _ h6
      have f7 := hf 7 _ h7
      have f8 := hf 8 _ h8
      have f9 := hf 9 _ h9
      have f10 := hf 10 _ h10
      have f11 := hf 11 _ h11
      clear hf
      rw [e0.trans (show _ = #[f 0, f 1, f 2, f 3, f 4, f 5, f 6, f 7, f 8, f 9, f 10, f 11, f 12, f 13, f 14, f 15, f 16, f 17, f 18, f 19, f 20, f 21, f 22, f 23, f 24, f 25, f 26, f 27, f 28, f 29, f 30, f 31, f 32, f 33, f 34, f 35, f 36, f 37, f 38, f 39, f 40, f 41, f 42, f 43, f 44, f 45, f 46, f 47, f 48, f 49, f 50, f 51, f 52, f 53, f 54, f 55, f 56, f 57, f 58, f 59, f 60, f 61, f 62, f 63, f 64, f 65, f 66, f 67, f 68, f 69, f 70, f 71, f 72, f 73, f 74, f 75, f 76, f 77, f 78, f 79, f 80, f 81, f 82, f 83, f 84, f 85, f 86, f 87, f 88, f 89, f 90, f 91, f 92, f 93, f 94, f 95, f 96, f 97, f 98, f 99, f 100, f 101, f 102, f 103, f 104, f 105, f 106, f 107, f 108, f 109, f 110, f 111, f 112, f 113, f 114, f 115, f 116, f 117, f 118, f 119, f 120, f 121, f 122, f 123, f 124] from by kernel_rfl), f4, f5, f6, f7, f8, f9, f10, f11]
      clear f4 f5 f6 f7 f8 f9 f10 f11
      clear e0
      dsimp only
      clear h4 h5 h6 h7 h8 h9 h10 h11 q118 v118 hM HS t1 t0 M
      go_wp2_with fail
      obtain ⟨M, hM⟩ : ∃ M, M = V6'.heap.size := ⟨_, rfl⟩
      refine hide_frame fun t0 HT => ?_
      have HS : t0.size = 125 := by rw [HT]; rfl
      have h4 : t0[4]? = some (.pointer (some ⟨(w.heap.size + 1 + 1), 0, none⟩)) := by rw [HT]; rfl
      have h5 : t0[5]? = some (.pointer (some ⟨gn, 0, none⟩)) := by rw [HT]; rfl
      have h6 : t0[6]? = some (.pointer (some ⟨g6, 0, none⟩)) := by rw [HT]; rfl
      have h7 : t0[7]? = some (.pointer (some ⟨g7, 0, none⟩)) := by rw [HT]; rfl
      have h8 : t0[8]? = some (.pointer (some ⟨g8, 0, none⟩)) := by rw [HT]; rfl
      have h9 : t0[9]? = some (.pointer (some ⟨g9, 0, none⟩)) := by rw [HT]; rfl
      have h10 : t0[10]? = some (.pointer (some ⟨g10, 0, none⟩)) := by rw [HT]; rfl
      have h11 : t0[11]? = some (.int .u64 (b.toNat : Int)) := by rw [HT]; rfl
      clear HT
      refine wp_region_most 5 (fun i => [120, 121, 122, 123, 124].getD i 0) (fun _ => none) (fun i => [IsEl xx, IsEl zz, IsEl iv, IsEl (xx * iv), (· = .agg (vals (bytesN R.val)))].getD i (fun _ => True)) (fun w' => Own w [(w.heap.size, 32, (· = .agg (vals Lk))), ((w.heap.size + 1), 32, (· = .agg (vals Lu))), ((w.heap.size + 1 + 1), 32, (fun _ => True)), (gn, 32, (· = .agg (vals (bytesN V)))), (g6, 5, IsEl x1), (g7, 5, IsEl xx), (g8, 5, IsEl zz), (g9, 5, IsEl p3), (g10, 5, IsEl q3)] w' ∧ M ≤ w'.heap.size) M
        (by kernel_rfl) (by kernel_rfl) (slots_apart (by kernel_rfl)) (slots_lie (by rw [HS]; kernel_rfl)) ⟨hS.drew, Nat.le_of_eq hM⟩ (fun w' h => h.2) (fun w1 w2 h b => ⟨h.1.keep b, Nat.le_trans h.2 b.size⟩) ?_ ?_ ?_
      · clear hS
        intro i o hi ho hA
        have hc : i = 0 ∨ i = 1 ∨ i = 2 ∨ i = 3 ∨ i = 4 := by omega
        rcases hc with rfl | rfl | rfl | rfl | rfl
        · obtain rfl := Option.some.inj ho
          refine ⟨rfl, fun a w' hS hold hin K hK => ?_⟩
          refine if_always rfl ?_
          exact op_ld_own 5 tElem (.tmp 7) rfl rfl _ (eval_tmp ((hold 7 (slots_not (by kernel_rfl))).trans h7)) hS.1 5 rfl hK
        · obtain rfl := Option.some.inj ho
          refine ⟨rfl, fun a w' hS hold hin K hK => ?_⟩
          refine if_always rfl ?_
          exact op_ld_own 5 tElem (.tmp 8) rfl rfl _ (eval_tmp ((hold 8 (slots_not (by kernel_rfl))).trans h8)) hS.1 6 rfl hK
        · obtain rfl := Option.some.inj ho
          refine ⟨rfl, fun a w' hS hold hin K hK => ?_⟩
          obtain ⟨y1, x1, (v1 : IsEl zz y1)⟩ := hin 1 rfl (by omega) rfl
          refine if_always rfl ?_
          exact op_fn1 _ _ _ _ rfl rfl (eval_tmp x1) (by intro args w; kernel_rfl) (inv_ev v1 Hhiv.out _) hK
        · obtain rfl := Option.some.inj ho
          refine ⟨rfl, fun a w' hS hold hin K hK => ?_⟩
          obtain ⟨y0, x0, (v0 : IsEl xx y0)⟩ := hin 0 rfl (by omega) rfl
          obtain ⟨y2, x2, (v2 : IsEl iv y2)⟩ := hin 2 rfl (by omega) rfl
          refine if_always rfl ?_
          exact op_fn2 _ _ _ _ _ _ rfl rfl (eval_tmp x0) (eval_tmp x2) (by intro args w; kernel_rfl) (mul_el v0 v2 _) hK
        · obtain rfl := Option.some.inj ho
          refine ⟨rfl, fun a w' hS hold hin K hK => ?_⟩
          obtain ⟨y3, x3, (v3 : IsEl (xx * iv) y3)⟩ := hin 3 rfl (by omega) rfl
          refine if_always rfl ?_
          exact op_fn1 _ _ _ _ rfl rfl (eval_tmp x3) (by intro args w; kernel_rfl) (bytes_ev v3 R.val Hhval.out _) hK
      · intro i o sz hi ho hA; cases hA
      clear hS
      intro t1 V7 hs hold hout hall hne hS
      replace HS := hs.trans HS
      replace hS := hS.1
      obtain ⟨x124, q124, v124⟩ : ∃ x, t1[124]? = some x ∧ ((· = .agg (vals (bytesN R.val)))) x := hout 4 (by omega) rfl
      replace h4 := (hold 4 (slots_not (by kernel_rfl))).trans h4
      replace h5 := (hold 5 (slots_not (by kernel_rfl))).trans h5
      replace h6 := (hold 6 (slots_not (by kernel_rfl))).trans h6
      replace h7 := (hold 7 (slots_not (by kernel_rfl))).trans h7
      replace h8 := (hold 8 (slots_not (by kernel_rfl))).trans h8
      replace h9 := (hold 9 (slots_not (by kernel_rfl))).trans h9
      replace h10 := (hold 10 (slots_not (by kernel_rfl))).trans h10
      replace h11 := (hold 11 (slots_not (by kernel_rfl))).trans h11
      clear hold hout hs hall hne
      simp only [List.drop_succ_cons, List.drop_zero]
      refine st_own 32 tKey rfl (.tmp 4) (.tmp 124) rfl rfl _ _ (eval_tmp h4) (eval_tmp q124) (V' := (· = .agg (vals (bytesN R.val)))) v124 (by_row (bytesN_len _)) hS 2 rfl fun V7' hS' _ => ?_
      replace hS : Own w [(w.heap.size, 32, (· = .agg (vals Lk))), ((w.heap.size + 1), 32, (· = .agg (vals Lu))), ((w.heap.size + 1 + 1), 32, (· = .agg (vals (bytesN R.val)))), (gn, 32, (· = .agg (vals (bytesN V)))), (g6, 5, IsEl x1), (g7, 5, IsEl xx), (g8, 5, IsEl zz), (g9, 5, IsEl p3), (g10, 5, IsEl q3)] V7' := hS'
      clear hS'
      refine wpList_nil ?_
      obtain ⟨f, e0, hf⟩ := wash HS
      have f4 := hf 4 _ h4
      have f5 := hf 5 _ h5
      have f6 := hf 6 _ h6
      have f7 := hf 7 _ h7
      have f8 := hf 8 _ h8
      have f9 := hf 9 _ h9
      have f10 := hf 10 _ h10
      have f11 := hf 11 _ h11
      clear hf
      rw [e0.trans (show _ = #[f 0, f 1, f 2, f 3, f 4, f 5, f 6, f 7, f 8, f 9, f 10, f 11, f 12, f 13, f 14, f 15, f 16, f 17, f 18, f 19, f 20, f 21, f 22, f 23, f 24, f 25, f 26, f 27, f 28, f 29, f 30, f 31, f 32, f 33, f 34, f 35, f 36, f 37, f 38, f 39, f 40, f 41, f 42, f 43, f 44, f 45, f 46, f 47, f 48, f 49, f 50, f 51, f 52, f 53, f 54, f 55, f 56, f 57, f 58, f 59, f 60, f 61, f 62, f 63, f 64, f 65, f 66, f 67, f 68, f 69, f 70, f 71, f 72, f 73, f 74, f 75, f 76, f 77, f 78, f 79, f 80, f 81, f 82, f 83, f 84, f 85, f 86, f 87, f 88, f 89, f 90, f 91, f 92, f 93, f 94, f 95, f 96, f 97, f 98, f 99, f 100, f 101, f 102, f 103, f 104, f 105, f 106, f 107, f 108, f 109, f 110, f 111, f 112, f 113, f 114, f 115, f 116, f 117, f 118, f 119, f 120, f 121, f 122, f 123, f 124] from by kernel_rfl), f4, f5, f6, f7, f8, f9, f10, f11]
      clear f4 f5 f6 f7 f8 f9 f10 f11
      clear e0
      dsimp only
      clear h4 h5 h6 h7 h8 h9 h10 h11 q124 v124 hM HS t1 t0 M
      obtain ⟨cs, ct, c1, c2, c3⟩ := hS.get (i := 2) rfl
      have hbel := hS.1
      have C3 := Lib.hid c3
      clear hS c3
      go_wp2_with fail
      refine ret_row rfl _ _ _ rfl c1 32 tKey c2 rfl ?_
      exact ⟨_, rfl, C3.out, hbel⟩
    | succ j =>
      rw [show ((j + 1 : Nat) : Int) - 1 = (j : Int) by omega]
      obtain ⟨csB, ctB, B1, B2, B3⟩ := hS1.out.get (i := 3) rfl
      injection B3 with B3
      subst B3
      have cb : wr.cell? ⟨gn, j / 8, none⟩ = some (.int .u8 (byteOf V (j / 8))) := (row_cell B1 _).trans (by rw [vals_get (by rw [bytesN_len]; omega), nth_bytesN _ _ (by omega)])
      clear B1 B2
      have t8 : ((j : Int)).tmod 8 = (j : Int) % 8 := Int.tmod_eq_emod_of_nonneg (by omega)
      have hby := byteOf_lt V (j / 8)
      go_wp2_with ((with_reducible refine guard_list ?_); first | (refine held_load 26 _ rfl ?_) | (refine held_load 22 _ rfl ?_) | (refine held_load 68 _ rfl ?_))
      obtain ⟨b', hb'⟩ : ∃ b', b' = decide (V / 2 ^ j % 2 = 1) := ⟨_, rfl⟩
      have hbit : bits .and .u64 (IntKind.u64.wrap ((byteOf V (j / 8) : Int) / 2 ^ (j % 8))) 1 = (b'.toNat : Int) := by
        have h1 : ((byteOf V (j / 8) : Nat) : Int) / 2 ^ (j % 8) = ((byteOf V (j / 8) / 2 ^ (j % 8) : Nat) : Int) := by push_cast; rfl
        have h2 : byteOf V (j / 8) / 2 ^ (j % 8) < 256 := Nat.lt_of_le_of_lt (Nat.div_le_self _ _) hby
        have h3 := nat_bit V j
        rw [h1, hb', ← h3]
        generalize byteOf V (j / 8) / 2 ^ (j % 8) = q at *
        rw [wrap_small (q : Int) (by omega) (by omega), and_one64 (q : Int) (by omega) (by omega)]
        have h5 : q % 2 = 0 ∨ q % 2 = 1 := by omega
        rcases h5 with h5 | h5 <;> simp [h5] <;> omega
      rw [hbit]
      clear hbit cb t8 hby
      have hmask := mask_bit b b'
      generalize IntKind.u64.wrap (-(bits .xor .u64 (b.toNat : Int) (b'.toNat : Int))) = mm at hmask ⊢
      obtain ⟨cc, hcc⟩ : ∃ c, c = xor b b' := ⟨_, rfl⟩
      rw [← hcc] at hmask
      have hS := hS1.out
      clear hS1
      obtain ⟨u, hu⟩ : ∃ x, x = selF cc p3 p2 := ⟨_, rfl⟩
      obtain ⟨v, hv⟩ : ∃ x, x = selF cc q3 q2 := ⟨_, rfl⟩
      obtain ⟨xt, hx3⟩ : ∃ x, x = selF cc p2 p3 := ⟨_, rfl⟩
      obtain ⟨zt, hz3⟩ : ∃ x, x = selF cc q2 q3 := ⟨_, rfl⟩
      have hb := hb'
      clear hb'
      have Hhu := Lib.hid hu
      have Hhv := Lib.hid hv
      have Hhx3 := Lib.hid hx3
      have Hhz3 := Lib.hid hz3
      have Hhcc := Lib.hid hcc
      have Hhb := Lib.hid hb
      have Hhmask := Lib.hid hmask
      clear hu hv hx3 hz3 hcc hb hmask
      obtain ⟨M, hM⟩ : ∃ M, M = wr.heap.size := ⟨_, rfl⟩
      refine hide_held fun t0 HT => ?_
      have HS : t0.size = 125 := by rw [HT]; rfl
      have h4 : t0[4]? = some (.pointer (some ⟨(w.heap.size + 1 + 1), 0, none⟩)) := by rw [HT]; rfl
      have h5 : t0[5]? = some (.pointer (some ⟨gn, 0, none⟩)) := by rw [HT]; rfl
      have h6 : t0[6]? = some (.pointer (some ⟨g6, 0, none⟩)) := by rw [HT]; rfl
      have h7 : t0[7]? = some (.pointer (some ⟨g7, 0, none⟩)) := by rw [HT]; rfl
      have h8 : t0[8]? = some (.pointer (some ⟨g8, 0, none⟩)) := by rw [HT]; rfl
      have h9 : t0[9]? = some (.pointer (some ⟨g9, 0, none⟩)) := by rw [HT]; rfl
      have h10 : t0[10]? = some (.pointer (some ⟨g10, 0, none⟩)) := by rw [HT]; rfl
      have h14 : t0[14]? = some (.int .u64 mm) := by rw [HT]; rfl
      refine wp_from_most 7 (fun i => [48, 49, 50, 51, 47, 52, 53].getD i 0) (fun _ => none) (fun i => [(· = .int .u64 mm), IsEl p2, IsEl p3, IsEl2 u xt, IsEl2 u xt, IsEl u, IsEl xt].getD i (fun _ => True)) (fun w' => Own w [(w.heap.size, 32, (· = .agg (vals Lk))), ((w.heap.size + 1), 32, (· = .agg (vals Lu))), ((w.heap.size + 1 + 1), 32, (fun _ => True)), (gn, 32, (· = .agg (vals (bytesN V)))), (g6, 5, IsEl x1), (g7, 5, IsEl p2), (g8, 5, IsEl q2), (g9, 5, IsEl p3), (g10, 5, IsEl q3)] w' ∧ M ≤ w'.heap.size) M
        1 (by omega) (by kernel_rfl) ?_ (slots_apart (by kernel_rfl)) (slots_lie (by rw [HS]; kernel_rfl)) ⟨hS, Nat.le_of_eq hM⟩ (fun w' h => h.2) (fun w1 w2 h b => ⟨h.1.keep b, Nat.le_trans h.2 b.size⟩) ?_ ?_ ?_
      · intro j hj _
        have hc : j = 0 := by omega
        rcases hc with rfl
        · exact ⟨rfl, _, by rw [HT]; rfl, rfl⟩
      · clear hS
        intro i o h0i hi ho hA
        have hc : i = 1 ∨ i = 2 ∨ i = 3 ∨ i = 4 ∨ i = 5 ∨ i = 6 := by omega
        rcases hc with rfl | rfl | rfl | rfl | rfl | rfl
        · obtain rfl := Option.some.inj ho
          refine ⟨rfl, fun a w' hS hold hin K hK => ?_⟩
          refine if_always rfl ?_
          exact op_ld_own 5 tElem (.tmp 7) rfl rfl _ (eval_tmp ((hold 7 (slots_not (by kernel_rfl))).trans h7)) hS.1 5 rfl hK
        · obtain rfl := Option.some.inj ho
          refine ⟨rfl, fun a w' hS hold hin K hK => ?_⟩
          refine if_always rfl ?_
          exact op_ld_own 5 tElem (.tmp 9) rfl rfl _ (eval_tmp ((hold 9 (slots_not (by kernel_rfl))).trans h9)) hS.1 7 rfl hK
        · obtain rfl := Option.some.inj ho
          refine ⟨rfl, fun a w' hS hold hin K hK => ?_⟩
          obtain ⟨y0, x0, rfl⟩ := hin 0 rfl (by omega) rfl
          obtain ⟨y1, x1, (v1 : IsEl p2 y1)⟩ := hin 1 rfl (by omega) rfl
          obtain ⟨y2, x2, (v2 : IsEl p3 y2)⟩ := hin 2 rfl (by omega) rfl
          refine if_always rfl ?_
          exact op_fn3 _ _ _ _ _ _ _ _ rfl rfl (eval_tmp x0) (eval_tmp x1) (eval_tmp x2) (by intro args w; kernel_rfl) (swap_evn cc Hhmask.out v1 v2 Hhu.out Hhx3.out _) hK
        · obtain rfl := Option.some.inj ho
          refine ⟨rfl, fun a w' hS hold hin K hK => ?_⟩
          obtain ⟨y3, x3, (v3 : IsEl2 u xt y3)⟩ := hin 3 rfl (by omega) rfl
          refine if_always rfl ?_
          exact op_move (V := IsEl2 u xt) _ _ rfl rfl (eval_tmp x3) v3 hK
        · obtain rfl := Option.some.inj ho
          refine ⟨rfl, fun a w' hS hold hin K hK => ?_⟩
          obtain ⟨y4, x4, (v4 : IsEl2 u xt y4)⟩ := hin 4 rfl (by omega) rfl
          refine if_always rfl ?_
          exact op_ext0 _ rfl rfl (eval_tmp x4) v4 hK
        · obtain rfl := Option.some.inj ho
          refine ⟨rfl, fun a w' hS hold hin K hK => ?_⟩
          obtain ⟨y4, x4, (v4 : IsEl2 u xt y4)⟩ := hin 4 rfl (by omega) rfl
          refine if_always rfl ?_
          exact op_ext1 _ rfl rfl (eval_tmp x4) v4 hK
      · intro i o sz h0i hi ho hA; cases hA
      clear hS
      intro t1 V5 hs hold hout hall hne hS
      have ef := frame_fill 7 (fun i => [48, 49, 50, 51, 47, 52, 53].getD i 0) hs hold (slots_apart (by kernel_rfl)) (slots_lie (by rw [HS]; kernel_rfl))
      replace HS := hs.trans HS
      replace hS := hS.1
      obtain ⟨x52, q52, v52⟩ : ∃ x, t1[52]? = some x ∧ (IsEl u) x := hout 5 (by omega) rfl
      obtain ⟨x53, q53, v53⟩ : ∃ x, t1[53]? = some x ∧ (IsEl xt) x := hout 6 (by omega) rfl
      replace h4 := (hold 4 (slots_not (by kernel_rfl))).trans h4
      replace h5 := (hold 5 (slots_not (by kernel_rfl))).trans h5
      replace h6 := (hold 6 (slots_not (by kernel_rfl))).trans h6
      replace h7 := (hold 7 (slots_not (by kernel_rfl))).trans h7
      replace h8 := (hold 8 (slots_not (by kernel_rfl))).trans h8
      replace h9 := (hold 9 (slots_not (by kernel_rfl))).trans h9
      replace h10 := (hold 10 (slots_not (by kernel_rfl))).trans h10
      replace h14 := (hold 14 (slots_not (by kernel_rfl))).trans h14
      clear hold hout hs hall hne
      simp only [List.drop_succ_cons, List.drop_zero]
      refine st_own 5 tElem rfl (.tmp 7) (.tmp 52) rfl rfl _ _ (eval_tmp h7) (eval_tmp q52) (V' := IsEl u) v52 (fun x hx => el_row hx) hS 5 rfl fun V5' hS' _ => ?_
      replace hS : Own w [(w.heap.size, 32, (· = .agg (vals Lk))), ((w.heap.size + 1), 32, (· = .agg (vals Lu))), ((w.heap.size + 1 + 1), 32, (fun _ => True)), (gn, 32, (· = .agg (vals (bytesN V)))), (g6, 5, IsEl x1), (g7, 5, IsEl u), (g8, 5, IsEl q2), (g9, 5, IsEl p3), (g10, 5, IsEl q3)] V5' := hS'
      clear hS'
      refine st_own 5 tElem rfl (.tmp 9) (.tmp 53) rfl rfl _ _ (eval_tmp h9) (eval_tmp q53) (V' := IsEl xt) v53 (fun x hx => el_row hx) hS 7 rfl fun V5'' hS' _ => ?_
      replace hS : Own w [(w.heap.size, 32, (· = .agg (vals Lk))), ((w.heap.size + 1), 32, (· = .agg (vals Lu))), ((w.heap.size + 1 + 1), 32, (fun _ => True)), (gn, 32, (· = .agg (vals (bytesN V)))), (g6, 5, IsEl x1), (g7, 5, IsEl u), (g8, 5, IsEl q2), (g9, 5, IsEl xt), (g10, 5, IsEl q3)] V5'' := hS'
      clear hS'
      refine wpList_nil ?_
      rw [ef, HT]
      clear ef
      simp only [fillA, if_true, List.getD_cons_zero, List.getD_cons_succ, List.setIfInBounds_toArray, List.set_cons_zero, List.set_cons_succ]
      generalize t1.getD 48 undef = z48
      generalize t1.getD 49 undef = z49
      generalize t1.getD 50 undef = z50
      generalize t1.getD 51 undef = z51
      generalize t1.getD 47 undef = z47
      generalize t1.getD 52 undef = z52
      generalize t1.getD 53 undef = z53
      clear HT
      clear h4 h5 h6 h7 h8 h9 h10 h14 q52 q53 v52 v53 hM HS t1 t0 M
      go_wp2_with ((with_reducible refine guard_list ?_); first | (refine held_load 26 _ rfl ?_) | (refine held_load 22 _ rfl ?_) | (refine held_load 68 _ rfl ?_))
      obtain ⟨M, hM⟩ : ∃ M, M = V5''.heap.size := ⟨_, rfl⟩
      refine hide_held fun t0 HT => ?_
      have HS : t0.size = 125 := by rw [HT]; rfl
      have h4 : t0[4]? = some (.pointer (some ⟨(w.heap.size + 1 + 1), 0, none⟩)) := by rw [HT]; rfl
      have h5 : t0[5]? = some (.pointer (some ⟨gn, 0, none⟩)) := by rw [HT]; rfl
      have h6 : t0[6]? = some (.pointer (some ⟨g6, 0, none⟩)) := by rw [HT]; rfl
      have h7 : t0[7]? = some (.pointer (some ⟨g7, 0, none⟩)) := by rw [HT]; rfl
      have h8 : t0[8]? = some (.pointer (some ⟨g8, 0, none⟩)) := by rw [HT]; rfl
      have h9 : t0[9]? = some (.pointer (some ⟨g9, 0, none⟩)) := by rw [HT]; rfl
      have h10 : t0[10]? = some (.pointer (some ⟨g10, 0, none⟩)) := by rw [HT]; rfl
      have h14 : t0[14]? = some (.int .u64 mm) := by rw [HT]; rfl
      refine wp_from_most 7 (fun i => [55, 56, 57, 58, 54, 59, 60].getD i 0) (fun _ => none) (fun i => [(· = .int .u64 mm), IsEl q2, IsEl q3, IsEl2 v zt, IsEl2 v zt, IsEl v, IsEl zt].getD i (fun _ => True)) (fun w' => Own w [(w.heap.size, 32, (· = .agg (vals Lk))), ((w.heap.size + 1), 32, (· = .agg (vals Lu))), ((w.heap.size + 1 + 1), 32, (fun _ => True)), (gn, 32, (· = .agg (vals (bytesN V)))), (g6, 5, IsEl x1), (g7, 5, IsEl u), (g8, 5, IsEl q2), (g9, 5, IsEl xt), (g10, 5, IsEl q3)] w' ∧ M ≤ w'.heap.size) M
        1 (by omega) (by kernel_rfl) ?_ (slots_apart (by kernel_rfl)) (slots_lie (by rw [HS]; kernel_rfl)) ⟨hS, Nat.le_of_eq hM⟩ (fun w' h => h.2) (fun w1 w2 h b => ⟨h.1.keep b, Nat.le_trans h.2 b.size⟩) ?_ ?_ ?_
      · intro j hj _
        have hc : j = 0 := by omega
        rcases hc with rfl
        · exact ⟨rfl, _, by rw [HT]; rfl, rfl⟩
      · clear hS
        intro i o h0i hi ho hA
        have hc : i = 1 ∨ i = 2 ∨ i = 3 ∨ i = 4 ∨ i = 5 ∨ i = 6 := by omega
        rcases hc with rfl | rfl | rfl | rfl | rfl | rfl
        · obtain rfl := Option.some.inj ho
          refine ⟨rfl, fun a w' hS hold hin K hK => ?_⟩
          refine if_always rfl ?_
          exact op_ld_own 5 tElem (.tmp 8) rfl rfl _ (eval_tmp ((hold 8 (slots_not (by kernel_rfl))).trans h8)) hS.1 6 rfl hK
        · obtain rfl := Option.some.inj ho
          refine ⟨rfl, fun a w' hS hold hin K hK => ?_⟩
          refine if_always rfl ?_
          exact op_ld_own 5 tElem (.tmp 10) rfl rfl _ (eval_tmp ((hold 10 (slots_not (by kernel_rfl))).trans h10)) hS.1 8 rfl hK
        · obtain rfl := Option.some.inj ho
          refine ⟨rfl, fun a w' hS hold hin K hK => ?_⟩
          obtain ⟨y0, x0, rfl⟩ := hin 0 rfl (by omega) rfl
          obtain ⟨y1, x1, (v1 : IsEl q2 y1)⟩ := hin 1 rfl (by omega) rfl
          obtain ⟨y2, x2, (v2 : IsEl q3 y2)⟩ := hin 2 rfl (by omega) rfl
          refine if_always rfl ?_
          exact op_fn3 _ _ _ _ _ _ _ _ rfl rfl (eval_tmp x0) (eval_tmp x1) (eval_tmp x2) (by intro args w; kernel_rfl) (swap_evn cc Hhmask.out v1 v2 Hhv.out Hhz3.out _) hK
        · obtain rfl := Option.some.inj ho
          refine ⟨rfl, fun a w' hS hold hin K hK => ?_⟩
          obtain ⟨y3, x3, (v3 : IsEl2 v zt y3)⟩ := hin 3 rfl (by omega) rfl
          refine if_always rfl ?_
          exact op_move (V := IsEl2 v zt) _ _ rfl rfl (eval_tmp x3) v3 hK
        · obtain rfl := Option.some.inj ho
          refine ⟨rfl, fun a w' hS hold hin K hK => ?_⟩
          obtain ⟨y4, x4, (v4 : IsEl2 v zt y4)⟩ := hin 4 rfl (by omega) rfl
          refine if_always rfl ?_
          exact op_ext0 _ rfl rfl (eval_tmp x4) v4 hK
        · obtain rfl := Option.some.inj ho
          refine ⟨rfl, fun a w' hS hold hin K hK => ?_⟩
          obtain ⟨y4, x4, (v4 : IsEl2 v zt y4)⟩ := hin 4 rfl (by omega) rfl
          refine if_always rfl ?_
          exact op_ext1 _ rfl rfl (eval_tmp x4) v4 hK
      · intro i o sz h0i hi ho hA; cases hA
      clear hS
      intro t1 V6 hs hold hout hall hne hS
      have ef := frame_fill 7 (fun i => [55, 56, 57, 58, 54, 59, 60].getD i 0) hs hold (slots_apart (by kernel_rfl)) (slots_lie (by rw [HS]; kernel_rfl))
      replace HS := hs.trans HS
      replace hS := hS.1
      obtain ⟨x59, q59, v59⟩ : ∃ x, t1[59]? = some x ∧ (IsEl v) x := hout 5 (by omega) rfl
      obtain ⟨x60, q60, v60⟩ : ∃ x, t1[60]? = some x ∧ (IsEl zt) x := hout 6 (by omega) rfl
      replace h4 := (hold 4 (slots_not (by kernel_rfl))).trans h4
      replace h5 := (hold 5 (slots_not (by kernel_rfl))).trans h5
      replace h6 := (hold 6 (slots_not (by kernel_rfl))).trans h6
      replace h7 := (hold 7 (slots_not (by kernel_rfl))).trans h7
      replace h8 := (hold 8 (slots_not (by kernel_rfl))).trans h8
      replace h9 := (hold 9 (slots_not (by kernel_rfl))).trans h9
      replace h10 := (hold 10 (slots_not (by kernel_rfl))).trans h10
      replace h14 := (hold 14 (slots_not (by kernel_rfl))).trans h14
      clear hold hout hs hall hne
      simp only [List.drop_succ_cons, List.drop_zero]
      refine st_own 5 tElem rfl (.tmp 8) (.tmp 59) rfl rfl _ _ (eval_tmp h8) (eval_tmp q59) (V' := IsEl v) v59 (fun x hx => el_row hx) hS 6 rfl fun V6' hS' _ => ?_
      replace hS : Own w [(w.heap.size, 32, (· = .agg (vals Lk))), ((w.heap.size + 1), 32, (· = .agg (vals Lu))), ((w.heap.size + 1 + 1), 32, (fun _ => True)), (gn, 32, (· = .agg (vals (bytesN V)))), (g6, 5, IsEl x1), (g7, 5, IsEl u), (g8, 5, IsEl v), (g9, 5, IsEl xt), (g10, 5, IsEl q3)] V6' := hS'
      clear hS'
      refine st_own 5 tElem rfl (.tmp 10) (.tmp 60) rfl rfl _ _ (eval_tmp h10) (eval_tmp q60) (V' := IsEl zt) v60 (fun x hx => el_row hx) hS 8 rfl fun V6'' hS' _ => ?_
      replace hS : Own w [(w.heap.size, 32, (· = .agg (vals Lk))), ((w.heap.size + 1), 32, (· = .agg (vals Lu))), ((w.heap.size + 1 + 1), 32, (fun _ => True)), (gn, 32, (· = .agg (vals (bytesN V)))), (g6, 5, IsEl x1), (g7, 5, IsEl u), (g8, 5, IsEl v), (g9, 5, IsEl xt), (g10, 5, IsEl zt)] V6'' := hS'
      clear hS'
      refine wpList_nil ?_
      rw [ef, HT]
      clear ef
      simp only [fillA, if_true, List.getD_cons_zero, List.getD_cons_succ, List.setIfInBounds_toArray, List.set_cons_zero, List.set_cons_succ]
      generalize t1.getD 55 undef = z55
      generalize t1.getD 56 undef = z56
      generalize t1.getD 57 undef = z57
      generalize t1.getD 58 undef = z58
      generalize t1.getD 54 undef = z54
      generalize t1.getD 59 undef = z59
      generalize t1.getD 60 undef = z60
      clear HT
      clear h4 h5 h6 h7 h8 h9 h10 h14 q59 q60 v59 v60 hM HS t1 t0 M
      go_wp2_with fail
      obtain ⟨M, hM⟩ : ∃ M, M = V6''.heap.size := ⟨_, rfl⟩
      have hMB : w.heap.size ≤ M := hM ▸ hS.1.size
      have ltM := hS.lt
      rw [← hM] at ltM
      refine hide_frame fun t0 HT => ?_
      have HS : t0.size = 125 := by rw [HT]; rfl
      have h4 : t0[4]? = some (.pointer (some ⟨(w.heap.size + 1 + 1), 0, none⟩)) := by rw [HT]; rfl
      have h5 : t0[5]? = some (.pointer (some ⟨gn, 0, none⟩)) := by rw [HT]; rfl
      have h6 : t0[6]? = some (.pointer (some ⟨g6, 0, none⟩)) := by rw [HT]; rfl
      have h7 : t0[7]? = some (.pointer (some ⟨g7, 0, none⟩)) := by rw [HT]; rfl
      have h8 : t0[8]? = some (.pointer (some ⟨g8, 0, none⟩)) := by rw [HT]; rfl
      have h9 : t0[9]? = some (.pointer (some ⟨g9, 0, none⟩)) := by rw [HT]; rfl
      have h10 : t0[10]? = some (.pointer (some ⟨g10, 0, none⟩)) := by rw [HT]; rfl
      refine wp_region_most 8 (fun i => [62, 63, 64, 65, 66, 67, 15, 16].getD i 0) (fun i => [none, none, none, none, none, none, some 5, some 5].getD i none) (fun i => [IsEl u, IsEl v, IsEl (u + v), IsEl u, IsEl v, IsEl (u - v), (fun _ => True), (fun _ => True)].getD i (fun _ => True)) (fun w' => Own w [(w.heap.size, 32, (· = .agg (vals Lk))), ((w.heap.size + 1), 32, (· = .agg (vals Lu))), ((w.heap.size + 1 + 1), 32, (fun _ => True)), (gn, 32, (· = .agg (vals (bytesN V)))), (g6, 5, IsEl x1), (g7, 5, IsEl u), (g8, 5, IsEl v), (g9, 5, IsEl xt), (g10, 5, IsEl zt)] w' ∧ M ≤ w'.heap.size) M
        (by kernel_rfl) (by kernel_rfl) (slots_apart (by kernel_rfl)) (slots_lie (by rw [HS]; kernel_rfl)) ⟨hS.drew, Nat.le_of_eq hM⟩ (fun w' h => h.2) (fun w1 w2 h b => ⟨h.1.keep b, Nat.le_trans h.2 b.size⟩) ?_ ?_ ?_
      · clear hS
        intro i o hi ho hA
        have hc : i = 0 ∨ i = 1 ∨ i = 2 ∨ i = 3 ∨ i = 4 ∨ i = 5 ∨ i = 6 ∨ i = 7 := by omega
        rcases hc with rfl | rfl | rfl | rfl | rfl | rfl | rfl | rfl
        · obtain rfl := Option.some.inj ho
          refine ⟨rfl, fun a w' hS hold hin K hK => ?_⟩
          refine if_always rfl ?_
          exact op_ld_own 5 tElem (.tmp 7) rfl rfl _ (eval_tmp ((hold 7 (slots_not (by kernel_rfl))).trans h7)) hS.1 5 rfl hK
        · obtain rfl := Option.some.inj ho
          refine ⟨rfl, fun a w' hS hold hin K hK => ?_⟩
          refine if_always rfl ?_
          exact op_ld_own 5 tElem (.tmp 8) rfl rfl _ (eval_tmp ((hold 8 (slots_not (by kernel_rfl))).trans h8)) hS.1 6 rfl hK
        · obtain rfl := Option.some.inj ho
          refine ⟨rfl, fun a w' hS hold hin K hK => ?_⟩
          obtain ⟨y0, x0, (v0 : IsEl u y0)⟩ := hin 0 rfl (by omega) rfl
          obtain ⟨y1, x1, (v1 : IsEl v y1)⟩ := hin 1 rfl (by omega) rfl
          refine if_always rfl ?_
          exact op_fn2 _ _ _ _ _ _ rfl rfl (eval_tmp x0) (eval_tmp x1) (by intro args w; kernel_rfl) (add_el v0 v1 _) hK
        · obtain rfl := Option.some.inj ho
          refine ⟨rfl, fun a w' hS hold hin K hK => ?_⟩
          refine if_always rfl ?_
          exact op_ld_own 5 tElem (.tmp 7) rfl rfl _ (eval_tmp ((hold 7 (slots_not (by kernel_rfl))).trans h7)) hS.1 5 rfl hK
        · obtain rfl := Option.some.inj ho
          refine ⟨rfl, fun a w' hS hold hin K hK => ?_⟩
          refine if_always rfl ?_
          exact op_ld_own 5 tElem (.tmp 8) rfl rfl _ (eval_tmp ((hold 8 (slots_not (by kernel_rfl))).trans h8)) hS.1 6 rfl hK
        · obtain rfl := Option.some.inj ho
          refine ⟨rfl, fun a w' hS hold hin K hK => ?_⟩
          obtain ⟨y3, x3, (v3 : IsEl u y3)⟩ := hin 3 rfl (by omega) rfl
          obtain ⟨y4, x4, (v4 : IsEl v y4)⟩ := hin 4 rfl (by omega) rfl
          refine if_always rfl ?_
          exact op_fn2 _ _ _ _ _ _ rfl rfl (eval_tmp x3) (eval_tmp x4) (by intro args w; kernel_rfl) (sub_el v3 v4 _) hK
        · cases hA
        · cases hA
      · intro i o sz hi ho hA
        have hc : i = 0 ∨ i = 1 ∨ i = 2 ∨ i = 3 ∨ i = 4 ∨ i = 5 ∨ i = 6 ∨ i = 7 := by omega
        rcases hc with rfl | rfl | rfl | rfl | rfl | rfl | rfl | rfl
        · cases hA
        · cases hA
        · cases hA
        · cases hA
        · cases hA
        · cases hA
        · obtain rfl := Option.some.inj ho
          obtain rfl := Option.some.inj hA
          exact ⟨rfl, rfl, 26, #[.int .u64 0, .int .u64 0, .int .u64 0, .int .u64 0, .int .u64 0], rfl, fun a w' K h => wp_new 26 #[.int .u64 0, .int .u64 0, .int .u64 0, .int .u64 0, .int .u64 0] (fun w => by kernel_rfl) h⟩
        · obtain rfl := Option.some.inj ho
          obtain rfl := Option.some.inj hA
          exact ⟨rfl, rfl, 26, #[.int .u64 0, .int .u64 0, .int .u64 0, .int .u64 0, .int .u64 0], rfl, fun a w' K h => wp_new 26 #[.int .u64 0, .int .u64 0, .int .u64 0, .int .u64 0, .int .u64 0] (fun w => by kernel_rfl) h⟩
      clear hS
      intro t1 V7 hs hold hout hall hne hS
      have ef := frame_fill 8 (fun i => [62, 63, 64, 65, 66, 67, 15, 16].getD i 0) hs hold (slots_apart (by kernel_rfl)) (slots_lie (by rw [HS]; kernel_rfl))
      replace HS := hs.trans HS
      replace hS := hS.1
      obtain ⟨g15, h15, b15, r15⟩ : ∃ g, t1[15]? = some (.pointer (some ⟨g, 0, none⟩)) ∧ M ≤ g ∧ ∃ cs ty, V7.heap[g]? = some (.cells cs ty (0, 0)) ∧ cs.size = 5 := by
        obtain ⟨g, p1, p2, ty, cs, p3, p4⟩ := hall 6 (by omega) 5 rfl
        exact ⟨g, p1, p2, cs, ty, p3, p4⟩
      obtain ⟨g16, h16, b16, r16⟩ : ∃ g, t1[16]? = some (.pointer (some ⟨g, 0, none⟩)) ∧ M ≤ g ∧ ∃ cs ty, V7.heap[g]? = some (.cells cs ty (0, 0)) ∧ cs.size = 5 := by
        obtain ⟨g, p1, p2, ty, cs, p3, p4⟩ := hall 7 (by omega) 5 rfl
        exact ⟨g, p1, p2, cs, ty, p3, p4⟩
      have n15_16 : g15 ≠ g16 := fun h => hne 6 7 (by omega) (by omega) (by omega) rfl rfl (show t1[15]? = t1[16]? by rw [h15, h16, h])
      replace hS : Own w [(w.heap.size, 32, (· = .agg (vals Lk))), ((w.heap.size + 1), 32, (· = .agg (vals Lu))), ((w.heap.size + 1 + 1), 32, (fun _ => True)), (gn, 32, (· = .agg (vals (bytesN V)))), (g6, 5, IsEl x1), (g7, 5, IsEl u), (g8, 5, IsEl v), (g9, 5, IsEl xt), (g10, 5, IsEl zt), (g15, 5, (fun _ => True))] V7 := hS.add (Nat.le_trans hMB b15) (fun r hr => Nat.ne_of_lt (Nat.lt_of_lt_of_le (ltM r hr) b15)) (Own.any r15)
      replace hS : Own w [(w.heap.size, 32, (· = .agg (vals Lk))), ((w.heap.size + 1), 32, (· = .agg (vals Lu))), ((w.heap.size + 1 + 1), 32, (fun _ => True)), (gn, 32, (· = .agg (vals (bytesN V)))), (g6, 5, IsEl x1), (g7, 5, IsEl u), (g8, 5, IsEl v), (g9, 5, IsEl xt), (g10, 5, IsEl zt), (g15, 5, (fun _ => True)), (g16, 5, (fun _ => True))] V7 := hS.add (Nat.le_trans hMB b16) (Own.ne_app (g1 := g15) (fun r hr => Nat.ne_of_lt (Nat.lt_of_lt_of_le (ltM r hr) b16)) n15_16) (Own.any r16)
      obtain ⟨x64, q64, v64⟩ : ∃ x, t1[64]? = some x ∧ (IsEl (u + v)) x := hout 2 (by omega) rfl
      obtain ⟨x67, q67, v67⟩ : ∃ x, t1[67]? = some x ∧ (IsEl (u - v)) x := hout 5 (by omega) rfl
      replace h4 := (hold 4 (slots_not (by kernel_rfl))).trans h4
      replace h5 := (hold 5 (slots_not (by kernel_rfl))).trans h5
      replace h6 := (hold 6 (slots_not (by kernel_rfl))).trans h6
      replace h7 := (hold 7 (slots_not (by kernel_rfl))).trans h7
      replace h8 := (hold 8 (slots_not (by kernel_rfl))).trans h8
      replace h9 := (hold 9 (slots_not (by kernel_rfl))).trans h9
      replace h10 := (hold 10 (slots_not (by kernel_rfl))).trans h10
      clear hold hout hs hall hne
      simp only [List.drop_succ_cons, List.drop_zero]
      refine st_own 5 tElem rfl (.tmp 15) (.tmp 64) rfl rfl _ _ (eval_tmp h15) (eval_tmp q64) (V' := IsEl (u + v)) v64 (fun x hx => el_row hx) hS 9 rfl fun V7' hS' _ => ?_
      replace hS : Own w [(w.heap.size, 32, (· = .agg (vals Lk))), ((w.heap.size + 1), 32, (· = .agg (vals Lu))), ((w.heap.size + 1 + 1), 32, (fun _ => True)), (gn, 32, (· = .agg (vals (bytesN V)))), (g6, 5, IsEl x1), (g7, 5, IsEl u), (g8, 5, IsEl v), (g9, 5, IsEl xt), (g10, 5, IsEl zt), (g15, 5, IsEl (u + v)), (g16, 5, (fun _ => True))] V7' := hS'
      clear hS'
      refine st_own 5 tElem rfl (.tmp 16) (.tmp 67) rfl rfl _ _ (eval_tmp h16) (eval_tmp q67) (V' := IsEl (u - v)) v67 (fun x hx => el_row hx) hS 10 rfl fun V7'' hS' _ => ?_
      replace hS : Own w [(w.heap.size, 32, (· = .agg (vals Lk))), ((w.heap.size + 1), 32, (· = .agg (vals Lu))), ((w.heap.size + 1 + 1), 32, (fun _ => True)), (gn, 32, (· = .agg (vals (bytesN V)))), (g6, 5, IsEl x1), (g7, 5, IsEl u), (g8, 5, IsEl v), (g9, 5, IsEl xt), (g10, 5, IsEl zt), (g15, 5, IsEl (u + v)), (g16, 5, IsEl (u - v))] V7'' := hS'
      clear hS'
      refine wpList_nil ?_
      have g15 : t1.getD 15 undef = .pointer (some ⟨g15, 0, none⟩) := by rw [Array.getD_eq_getD_getElem?, h15]; rfl
      have g16 : t1.getD 16 undef = .pointer (some ⟨g16, 0, none⟩) := by rw [Array.getD_eq_getD_getElem?, h16]; rfl
      rw [ef, HT]
      clear ef
      simp only [fillA, if_true, List.getD_cons_zero, List.getD_cons_succ, List.setIfInBounds_toArray, List.set_cons_zero, List.set_cons_succ, g15, g16]
      generalize t1.getD 62 undef = z62
      generalize t1.getD 63 undef = z63
      generalize t1.getD 64 undef = z64
      generalize t1.getD 65 undef = z65
      generalize t1.getD 66 undef = z66
      generalize t1.getD 67 undef = z67
      clear g15 g16 HT
      clear h4 h5 h6 h7 h8 h9 h10 h15 h16 q64 q67 v64 v67 b15 b16 r15 r16 n15_16 ltM hMB hM HS t1 t0 M
      go_wp2_with fail
      obtain ⟨M, hM⟩ : ∃ M, M = V7''.heap.size := ⟨_, rfl⟩
      have hMB : w.heap.size ≤ M := hM ▸ hS.1.size
      have ltM := hS.lt
      rw [← hM] at ltM
      refine hide_frame fun t0 HT => ?_
      have HS : t0.size = 125 := by rw [HT]; rfl
      have h4 : t0[4]? = some (.pointer (some ⟨(w.heap.size + 1 + 1), 0, none⟩)) := by rw [HT]; rfl
      have h5 : t0[5]? = some (.pointer (some ⟨gn, 0, none⟩)) := by rw [HT]; rfl
      have h6 : t0[6]? = some (.pointer (some ⟨g6, 0, none⟩)) := by rw [HT]; rfl
      have h7 : t0[7]? = some (.pointer (some ⟨g7, 0, none⟩)) := by rw [HT]; rfl
      have h8 : t0[8]? = some (.pointer (some ⟨g8, 0, none⟩)) := by rw [HT]; rfl
      have h9 : t0[9]? = some (.pointer (some ⟨g9, 0, none⟩)) := by rw [HT]; rfl
      have h10 : t0[10]? = some (.pointer (some ⟨g10, 0, none⟩)) := by rw [HT]; rfl
      have h15 : t0[15]? = some (.pointer (some ⟨g15, 0, none⟩)) := by rw [HT]; rfl
      have h16 : t0[16]? = some (.pointer (some ⟨g16, 0, none⟩)) := by rw [HT]; rfl
      refine wp_region_most 6 (fun i => [68, 69, 70, 71, 17, 18].getD i 0) (fun i => [none, none, none, none, some 5, some 5].getD i none) (fun i => [IsEl (u + v), IsEl ((u + v) * (u + v)), IsEl (u - v), IsEl ((u - v) * (u - v)), (fun _ => True), (fun _ => True)].getD i (fun _ => True)) (fun w' => Own w [(w.heap.size, 32, (· = .agg (vals Lk))), ((w.heap.size + 1), 32, (· = .agg (vals Lu))), ((w.heap.size + 1 + 1), 32, (fun _ => True)), (gn, 32, (· = .agg (vals (bytesN V)))), (g6, 5, IsEl x1), (g7, 5, IsEl u), (g8, 5, IsEl v), (g9, 5, IsEl xt), (g10, 5, IsEl zt), (g15, 5, IsEl (u + v)), (g16, 5, IsEl (u - v))] w' ∧ M ≤ w'.heap.size) M
        (by kernel_rfl) (by kernel_rfl) (slots_apart (by kernel_rfl)) (slots_lie (by rw [HS]; kernel_rfl)) ⟨hS.drew, Nat.le_of_eq hM⟩ (fun w' h => h.2) (fun w1 w2 h b => ⟨h.1.keep b, Nat.le_trans h.2 b.size⟩) ?_ ?_ ?_
      · clear hS
        intro i o hi ho hA
        have hc : i = 0 ∨ i = 1 ∨ i = 2 ∨ i = 3 ∨ i = 4 ∨ i = 5 := by omega
        rcases hc with rfl | rfl | rfl | rfl | rfl | rfl
        · obtain rfl := Option.some.inj ho
          refine ⟨rfl, fun a w' hS hold hin K hK => ?_⟩
          refine if_always rfl ?_
          exact op_ld_own 5 tElem (.tmp 15) rfl rfl _ (eval_tmp ((hold 15 (slots_not (by kernel_rfl))).trans h15)) hS.1 9 rfl hK
        · obtain rfl := Option.some.inj ho
          refine ⟨rfl, fun a w' hS hold hin K hK => ?_⟩
          obtain ⟨y0, x0, (v0 : IsEl (u + v) y0)⟩ := hin 0 rfl (by omega) rfl
          refine if_always rfl ?_
          exact op_fn1 _ _ _ _ rfl rfl (eval_tmp x0) (by intro args w; kernel_rfl) (square_el v0 _) hK
        · obtain rfl := Option.some.inj ho
          refine ⟨rfl, fun a w' hS hold hin K hK => ?_⟩
          refine if_always rfl ?_
          exact op_ld_own 5 tElem (.tmp 16) rfl rfl _ (eval_tmp ((hold 16 (slots_not (by kernel_rfl))).trans h16)) hS.1 10 rfl hK
        · obtain rfl := Option.some.inj ho
          refine ⟨rfl, fun a w' hS hold hin K hK => ?_⟩
          obtain ⟨y2, x2, (v2 : IsEl (u - v) y2)⟩ := hin 2 rfl (by omega) rfl
          refine if_always rfl ?_
          exact op_fn1 _ _ _ _ rfl rfl (eval_tmp x2) (by intro args w; kernel_rfl) (square_el v2 _) hK
        · cases hA
        · cases hA
      · intro i o sz hi ho hA
        have hc : i = 0 ∨ i = 1 ∨ i = 2 ∨ i = 3 ∨ i = 4 ∨ i = 5 := by omega
        rcases hc with rfl | rfl | rfl | rfl | rfl | rfl
        · cases hA
        · cases hA
        · cases hA
        · cases hA
        · obtain rfl := Option.some.inj ho
          obtain rfl := Option.some.inj hA
          exact ⟨rfl, rfl, 26, #[.int .u64 0, .int .u64 0, .int .u64 0, .int .u64 0, .int .u64 0], rfl, fun a w' K h => wp_new 26 #[.int .u64 0, .int .u64 0, .int .u64 0, .int .u64 0, .int .u64 0] (fun w => by kernel_rfl) h⟩
        · obtain rfl := Option.some.inj ho
          obtain rfl := Option.some.inj hA
          exact ⟨rfl, rfl, 26, #[.int .u64 0, .int .u64 0, .int .u64 0, .int .u64 0, .int .u64 0], rfl, fun a w' K h => wp_new 26 #[.int .u64 0, .int .u64 0, .int .u64 0, .int .u64 0, .int .u64 0] (fun w => by kernel_rfl) h⟩
      clear hS
      intro t1 V8 hs hold hout hall hne hS
      have ef := frame_fill 6 (fun i => [68, 69, 70, 71, 17, 18].getD i 0) hs hold (slots_apart (by kernel_rfl)) (slots_lie (by rw [HS]; kernel_rfl))
      replace HS := hs.trans HS
      replace hS := hS.1
      obtain ⟨g17, h17, b17, r17⟩ : ∃ g, t1[17]? = some (.pointer (some ⟨g, 0, none⟩)) ∧ M ≤ g ∧ ∃ cs ty, V8.heap[g]? = some (.cells cs ty (0, 0)) ∧ cs.size = 5 := by
        obtain ⟨g, p1, p2, ty, cs, p3, p4⟩ := hall 4 (by omega) 5 rfl
        exact ⟨g, p1, p2, cs, ty, p3, p4⟩
      obtain ⟨g18, h18, b18, r18⟩ : ∃ g, t1[18]? = some (.pointer (some ⟨g, 0, none⟩)) ∧ M ≤ g ∧ ∃ cs ty, V8.heap[g]? = some (.cells cs ty (0, 0)) ∧ cs.size = 5 := by
        obtain ⟨g, p1, p2, ty, cs, p3, p4⟩ := hall 5 (by omega) 5 rfl
        exact ⟨g, p1, p2, cs, ty, p3, p4⟩
      have n17_18 : g17 ≠ g18 := fun h => hne 4 5 (by omega) (by omega) (by omega) rfl rfl (show t1[17]? = t1[18]? by rw [h17, h18, h])
      replace hS : Own w [(w.heap.size, 32, (· = .agg (vals Lk))), ((w.heap.size + 1), 32, (· = .agg (vals Lu))), ((w.heap.size + 1 + 1), 32, (fun _ => True)), (gn, 32, (· = .agg (vals (bytesN V)))), (g6, 5, IsEl x1), (g7, 5, IsEl u), (g8, 5, IsEl v), (g9, 5, IsEl xt), (g10, 5, IsEl zt), (g15, 5, IsEl (u + v)), (g16, 5, IsEl (u - v)), (g17, 5, (fun _ => True))] V8 := hS.add (Nat.le_trans hMB b17) (fun r hr => Nat.ne_of_lt (Nat.lt_of_lt_of_le (ltM r hr) b17)) (Own.any r17)
      replace hS : Own w [(w.heap.size, 32, (· = .agg (vals Lk))), ((w.heap.size + 1), 32, (· = .agg (vals Lu))), ((w.heap.size + 1 + 1), 32, (fun _ => True)), (gn, 32, (· = .agg (vals (bytesN V)))), (g6, 5, IsEl x1), (g7, 5, IsEl u), (g8, 5, IsEl v), (g9, 5, IsEl xt), (g10, 5, IsEl zt), (g15, 5, IsEl (u + v)), (g16, 5, IsEl (u - v)), (g17, 5, (fun _ => True)), (g18, 5, (fun _ => True))] V8 := hS.add (Nat.le_trans hMB b18) (Own.ne_app (g1 := g17) (fun r hr => Nat.ne_of_lt (Nat.lt_of_lt_of_le (ltM r hr) b18)) n17_18) (Own.any r18)
      obtain ⟨x69, q69, v69⟩ : ∃ x, t1[69]? = some x ∧ (IsEl ((u + v) * (u + v))) x := hout 1 (by omega) rfl
      obtain ⟨x71, q71, v71⟩ : ∃ x, t1[71]? = some x ∧ (IsEl ((u - v) * (u - v))) x := hout 3 (by omega) rfl
      replace h4 := (hold 4 (slots_not (by kernel_rfl))).trans h4
      replace h5 := (hold 5 (slots_not (by kernel_rfl))).trans h5
      replace h6 := (hold 6 (slots_not (by kernel_rfl))).trans h6
      replace h7 := (hold 7 (slots_not (by kernel_rfl))).trans h7
      replace h8 := (hold 8 (slots_not (by kernel_rfl))).trans h8
      replace h9 := (hold 9 (slots_not (by kernel_rfl))).trans h9
      replace h10 := (hold 10 (slots_not (by kernel_rfl))).trans h10
      replace h15 := (hold 15 (slots_not (by kernel_rfl))).trans h15
      replace h16 := (hold 16 (slots_not (by kernel_rfl))).trans h16
      clear hold hout hs hall hne
      simp only [List.drop_succ_cons, List.drop_zero]
      refine st_own 5 tElem rfl (.tmp 17) (.tmp 69) rfl rfl _ _ (eval_tmp h17) (eval_tmp q69) (V' := IsEl ((u + v) * (u + v))) v69 (fun x hx => el_row hx) hS 11 rfl fun V8' hS' _ => ?_
      replace hS : Own w [(w.heap.size, 32, (· = .agg (vals Lk))), ((w.heap.size + 1), 32, (· = .agg (vals Lu))), ((w.heap.size + 1 + 1), 32, (fun _ => True)), (gn, 32, (· = .agg (vals (bytesN V)))), (g6, 5, IsEl x1), (g7, 5, IsEl u), (g8, 5, IsEl v), (g9, 5, IsEl xt), (g10, 5, IsEl zt), (g15, 5, IsEl (u + v)), (g16, 5, IsEl (u - v)), (g17, 5, IsEl ((u + v) * (u + v))), (g18, 5, (fun _ => True))] V8' := hS'
      clear hS'
      refine st_own 5 tElem rfl (.tmp 18) (.tmp 71) rfl rfl _ _ (eval_tmp h18) (eval_tmp q71) (V' := IsEl ((u - v) * (u - v))) v71 (fun x hx => el_row hx) hS 12 rfl fun V8'' hS' _ => ?_
      replace hS : Own w [(w.heap.size, 32, (· = .agg (vals Lk))), ((w.heap.size + 1), 32, (· = .agg (vals Lu))), ((w.heap.size + 1 + 1), 32, (fun _ => True)), (gn, 32, (· = .agg (vals (bytesN V)))), (g6, 5, IsEl x1), (g7, 5, IsEl u), (g8, 5, IsEl v), (g9, 5, IsEl xt), (g10, 5, IsEl zt), (g15, 5, IsEl (u + v)), (g16, 5, IsEl (u - v)), (g17, 5, IsEl ((u + v) * (u + v))), (g18, 5, IsEl ((u - v) * (u - v)))] V8'' := hS'
      clear hS'
      refine wpList_nil ?_
      have g17 : t1.getD 17 undef = .pointer (some ⟨g17, 0, none⟩) := by rw [Array.getD_eq_getD_getElem?, h17]; rfl
      have g18 : t1.getD 18 undef = .pointer (some ⟨g18, 0, none⟩) := by rw [Array.getD_eq_getD_getElem?, h18]; rfl
      rw [ef, HT]
      clear ef
      simp only [fillA, if_true, List.getD_cons_zero, List.getD_cons_succ, List.setIfInBounds_toArray, List.set_cons_zero, List.set_cons_succ, g17, g18]
      generalize t1.getD 68 undef = z68
      generalize t1.getD 69 undef = z69
      generalize t1.getD 70 undef = z70
      generalize t1.getD 71 undef = z71
      clear g17 g18 HT
      clear h4 h5 h6 h7 h8 h9 h10 h15 h16 h17 h18 q69 q71 v69 v71 b17 b18 r17 r18 n17_18 ltM hMB hM HS t1 t0 M
      go_wp2_with fail
      obtain ⟨M, hM⟩ : ∃ M, M = V8''.heap.size := ⟨_, rfl⟩
      have hMB : w.heap.size ≤ M := hM ▸ hS.1.size
      have ltM := hS.lt
      rw [← hM] at ltM
      refine hide_frame fun t0 HT => ?_
      have HS : t0.size = 125 := by rw [HT]; rfl
      have h4 : t0[4]? = some (.pointer (some ⟨(w.heap.size + 1 + 1), 0, none⟩)) := by rw [HT]; rfl
      have h5 : t0[5]? = some (.pointer (some ⟨gn, 0, none⟩)) := by rw [HT]; rfl
      have h6 : t0[6]? = some (.pointer (some ⟨g6, 0, none⟩)) := by rw [HT]; rfl
      have h7 : t0[7]? = some (.pointer (some ⟨g7, 0, none⟩)) := by rw [HT]; rfl
      have h8 : t0[8]? = some (.pointer (some ⟨g8, 0, none⟩)) := by rw [HT]; rfl
      have h9 : t0[9]? = some (.pointer (some ⟨g9, 0, none⟩)) := by rw [HT]; rfl
      have h10 : t0[10]? = some (.pointer (some ⟨g10, 0, none⟩)) := by rw [HT]; rfl
      have h15 : t0[15]? = some (.pointer (some ⟨g15, 0, none⟩)) := by rw [HT]; rfl
      have h16 : t0[16]? = some (.pointer (some ⟨g16, 0, none⟩)) := by rw [HT]; rfl
      have h17 : t0[17]? = some (.pointer (some ⟨g17, 0, none⟩)) := by rw [HT]; rfl
      have h18 : t0[18]? = some (.pointer (some ⟨g18, 0, none⟩)) := by rw [HT]; rfl
      refine wp_region_most 12 (fun i => [72, 73, 74, 75, 76, 77, 78, 79, 80, 81, 19, 20].getD i 0) (fun i => [none, none, none, none, none, none, none, none, none, none, some 5, some 5].getD i none) (fun i => [IsEl xt, IsEl zt, IsEl (xt - zt), IsEl (u + v), IsEl ((xt - zt) * (u + v)), IsEl xt, IsEl zt, IsEl (xt + zt), IsEl (u - v), IsEl ((xt + zt) * (u - v)), (fun _ => True), (fun _ => True)].getD i (fun _ => True)) (fun w' => Own w [(w.heap.size, 32, (· = .agg (vals Lk))), ((w.heap.size + 1), 32, (· = .agg (vals Lu))), ((w.heap.size + 1 + 1), 32, (fun _ => True)), (gn, 32, (· = .agg (vals (bytesN V)))), (g6, 5, IsEl x1), (g7, 5, IsEl u), (g8, 5, IsEl v), (g9, 5, IsEl xt), (g10, 5, IsEl zt), (g15, 5, IsEl (u + v)), (g16, 5, IsEl (u - v)), (g17, 5, IsEl ((u + v) * (u + v))), (g18, 5, IsEl ((u - v) * (u - v)))] w' ∧ M ≤ w'.heap.size) M
        (by kernel_rfl) (by kernel_rfl) (slots_apart (by kernel_rfl)) (slots_lie (by rw [HS]; kernel_rfl)) ⟨hS.drew, Nat.le_of_eq hM⟩ (fun w' h => h.2) (fun w1 w2 h b => ⟨h.1.keep b, Nat.le_trans h.2 b.size⟩) ?_ ?_ ?_
      · clear hS
        intro i o hi ho hA
        have hc : i = 0 ∨ i = 1 ∨ i = 2 ∨ i = 3 ∨ i = 4 ∨ i = 5 ∨ i = 6 ∨ i = 7 ∨ i = 8 ∨ i = 9 ∨ i = 10 ∨ i = 11 := by omega
        rcases hc with rfl | rfl | rfl | rfl | rfl | rfl | rfl | rfl | rfl | rfl | rfl | rfl
        · obtain rfl := Option.some.inj ho
          refine ⟨rfl, fun a w' hS hold hin K hK => ?_⟩
          refine if_always rfl ?_
          exact op_ld_own 5 tElem (.tmp 9) rfl rfl _ (eval_tmp ((hold 9 (slots_not (by kernel_rfl))).trans h9)) hS.1 7 rfl hK
        · obtain rfl := Option.some.inj ho
          refine ⟨rfl, fun a w' hS hold hin K hK => ?_⟩
          refine if_always rfl ?_
          exact op_ld_own 5 tElem (.tmp 10) rfl rfl _ (eval_tmp ((hold 10 (slots_not (by kernel_rfl))).trans h10)) hS.1 8 rfl hK
        · obtain rfl := Option.some.inj ho
          refine ⟨rfl, fun a w' hS hold hin K hK => ?_⟩
          obtain ⟨y0, x0, (v0 : IsEl xt y0)⟩ := hin 0 rfl (by omega) rfl
          obtain ⟨y1, x1, (v1 : IsEl zt y1)⟩ := hin 1 rfl (by omega) rfl
          refine if_always rfl ?_
          exact op_fn2 _ _ _ _ _ _ rfl rfl (eval_tmp x0) (eval_tmp x1) (by intro args w; kernel_rfl) (sub_el v0 v1 _) hK
        · obtain rfl := Option.some.inj ho
          refine ⟨rfl, fun a w' hS hold hin K hK => ?_⟩
          refine if_always rfl ?_
          exact op_ld_own 5 tElem (.tmp 15) rfl rfl _ (eval_tmp ((hold 15 (slots_not (by kernel_rfl))).trans h15)) hS.1 9 rfl hK
        · obtain rfl := Option.some.inj ho
          refine ⟨rfl, fun a w' hS hold hin K hK => ?_⟩
          obtain ⟨y2, x2, (v2 : IsEl (xt - zt) y2)⟩ := hin 2 rfl (by omega) rfl
          obtain ⟨y3, x3, (v3 : IsEl (u + v) y3)⟩ := hin 3 rfl (by omega) rfl
          refine if_always rfl ?_
          exact op_fn2 _ _ _ _ _ _ rfl rfl (eval_tmp x2) (eval_tmp x3) (by intro args w; kernel_rfl) (mul_el v2 v3 _) hK
        · obtain rfl := Option.some.inj ho
          refine ⟨rfl, fun a w' hS hold hin K hK => ?_⟩
          refine if_always rfl ?_
          exact op_ld_own 5 tElem (.tmp 9) rfl rfl _ (eval_tmp ((hold 9 (slots_not (by kernel_rfl))).trans h9)) hS.1 7 rfl hK
        · obtain rfl := Option.some.inj ho
          refine ⟨rfl, fun a w' hS hold hin K hK => ?_⟩
          refine if_always rfl ?_
          exact op_ld_own 5 tElem (.tmp 10) rfl rfl _ (eval_tmp ((hold 10 (slots_not (by kernel_rfl))).trans h10)) hS.1 8 rfl hK
        · obtain rfl := Option.some.inj ho
          refine ⟨rfl, fun a w' hS hold hin K hK => ?_⟩
          obtain ⟨y5, x5, (v5 : IsEl xt y5)⟩ := hin 5 rfl (by omega) rfl
          obtain ⟨y6, x6, (v6 : IsEl zt y6)⟩ := hin 6 rfl (by omega) rfl
          refine if_always rfl ?_
          exact op_fn2 _ _ _ _ _ _ rfl rfl (eval_tmp x5) (eval_tmp x6) (by intro args w; kernel_rfl) (add_el v5 v6 _) hK
        · obtain rfl := Option.some.inj ho
          refine ⟨rfl, fun a w' hS hold hin K hK => ?_⟩
          refine if_always rfl ?_
          exact op_ld_own 5 tElem (.tmp 16) rfl rfl _ (eval_tmp ((hold 16 (slots_not (by kernel_rfl))).trans h16)) hS.1 10 rfl hK
        · obtain rfl := Option.some.inj ho
          refine ⟨rfl, fun a w' hS hold hin K hK => ?_⟩
          obtain ⟨y7, x7, (v7 : IsEl (xt + zt) y7)⟩ := hin 7 rfl (by omega) rfl
          obtain ⟨y8, x8, (v8 : IsEl (u - v) y8)⟩ := hin 8 rfl (by omega) rfl
          refine if_always rfl ?_
          exact op_fn2 _ _ _ _ _ _ rfl rfl (eval_tmp x7) (eval_tmp x8) (by intro args w; kernel_rfl) (mul_el v7 v8 _) hK
        · cases hA
        · cases hA
      · intro i o sz hi ho hA
        have hc : i = 0 ∨ i = 1 ∨ i = 2 ∨ i = 3 ∨ i = 4 ∨ i = 5 ∨ i = 6 ∨ i = 7 ∨ i = 8 ∨ i = 9 ∨ i = 10 ∨ i = 11 := by omega
        rcases hc with rfl | rfl | rfl | rfl | rfl | rfl | rfl | rfl | rfl | rfl | rfl | rfl
        · cases hA
        · cases hA
        · cases hA
        · cases hA
        · cases hA
        · cases hA
        · cases hA
        · cases hA
        · cases hA
        · cases hA
        · obtain rfl := Option.some.inj ho
          obtain rfl := Option.some.inj hA
          exact ⟨rfl, rfl, 26, #[.int .u64 0, .int .u64 0, .int .u64 0, .int .u64 0, .int .u64 0], rfl, fun a w' K h => wp_new 26 #[.int .u64 0, .int .u64 0, .int .u64 0, .int .u64 0, .int .u64 0] (fun w => by kernel_rfl) h⟩
        · obtain rfl := Option.some.inj ho
          obtain rfl := Option.some.inj hA
          exact ⟨rfl, rfl, 26, #[.int .u64 0, .int .u64 0, .int .u64 0, .int .u64 0, .int .u64 0], rfl, fun a w' K h => wp_new 26 #[.int .u64 0, .int .u64 0, .int .u64 0, .int .u64 0, .int .u64 0] (fun w => by kernel_rfl) h⟩
      clear hS
      intro t1 V9 hs hold hout hall hne hS
      have ef := frame_fill 12 (fun i => [72, 73, 74, 75, 76, 77, 78, 79, 80, 81, 19, 20].getD i 0) hs hold (slots_apart (by kernel_rfl)) (slots_lie (by rw [HS]; kernel_rfl))
      replace HS := hs.trans HS
      replace hS := hS.1
      obtain ⟨g19, h19, b19, r19⟩ : ∃ g, t1[19]? = some (.pointer (some ⟨g, 0, none⟩)) ∧ M ≤ g ∧ ∃ cs ty, V9.heap[g]? = some (.cells cs ty (0, 0)) ∧ cs.size = 5 := by
        obtain ⟨g, p1, p2, ty, cs, p3, p4⟩ := hall 10 (by omega) 5 rfl
        exact ⟨g, p1, p2, cs, ty, p3, p4⟩
      obtain ⟨g20, h20, b20, r20⟩ : ∃ g, t1[20]? = some (.pointer (some ⟨g, 0, none⟩)) ∧ M ≤ g ∧ ∃ cs ty, V9.heap[g]? = some (.cells cs ty (0, 0)) ∧ cs.size = 5 := by
        obtain ⟨g, p1, p2, ty, cs, p3, p4⟩ := hall 11 (by omega) 5 rfl
        exact ⟨g, p1, p2, cs, ty, p3, p4⟩
      have n19_20 : g19 ≠ g20 := fun h => hne 10 11 (by omega) (by omega) (by omega) rfl rfl (show t1[19]? = t1[20]? by rw [h19, h20, h])
      replace hS : Own w [(w.heap.size, 32, (· = .agg (vals Lk))), ((w.heap.size + 1), 32, (· = .agg (vals Lu))), ((w.heap.size + 1 + 1), 32, (fun _ => True)), (gn, 32, (· = .agg (vals (bytesN V)))), (g6, 5, IsEl x1), (g7, 5, IsEl u), (g8, 5, IsEl v), (g9, 5, IsEl xt), (g10, 5, IsEl zt), (g15, 5, IsEl (u + v)), (g16, 5, IsEl (u - v)), (g17, 5, IsEl ((u + v) * (u + v))), (g18, 5, IsEl ((u - v) * (u - v))), (g19, 5, (fun _ => True))] V9 := hS.add (Nat.le_trans hMB b19) (fun r hr => Nat.ne_of_lt (Nat.lt_of_lt_of_le (ltM r hr) b19)) (Own.any r19)
      replace hS : Own w [(w.heap.size, 32, (· = .agg (vals Lk))), ((w.heap.size + 1), 32, (· = .agg (vals Lu))), ((w.heap.size + 1 + 1), 32, (fun _ => True)), (gn, 32, (· = .agg (vals (bytesN V)))), (g6, 5, IsEl x1), (g7, 5, IsEl u), (g8, 5, IsEl v), (g9, 5, IsEl xt), (g10, 5, IsEl zt), (g15, 5, IsEl (u + v)), (g16, 5, IsEl (u - v)), (g17, 5, IsEl ((u + v) * (u + v))), (g18, 5, IsEl ((u - v) * (u - v))), (g19, 5, (fun _ => True)), (g20, 5, (fun _ => True))] V9 := hS.add (Nat.le_trans hMB b20) (Own.ne_app (g1 := g19) (fun r hr => Nat.ne_of_lt (Nat.lt_of_lt_of_le (ltM r hr) b20)) n19_20) (Own.any r20)
      obtain ⟨x76, q76, v76⟩ : ∃ x, t1[76]? = some x ∧ (IsEl ((xt - zt) * (u + v))) x := hout 4 (by omega) rfl
      obtain ⟨x81, q81, v81⟩ : ∃ x, t1[81]? = some x ∧ (IsEl ((xt + zt) * (u - v))) x := hout 9 (by omega) rfl
      replace h4 := (hold 4 (slots_not (by kernel_rfl))).trans h4
      replace h5 := (hold 5 (slots_not (by kernel_rfl))).trans h5
      replace h6 := (hold 6 (slots_not (by kernel_rfl))).trans h6
      replace h7 := (hold 7 (slots_not (by kernel_rfl))).trans h7
      replace h8 := (hold 8 (slots_not (by kernel_rfl))).trans h8
      replace h9 := (hold 9 (slots_not (by kernel_rfl))).trans h9
      replace h10 := (hold 10 (slots_not (by kernel_rfl))).trans h10
      replace h15 := (hold 15 (slots_not (by kernel_rfl))).trans h15
      replace h16 := (hold 16 (slots_not (by kernel_rfl))).trans h16
      replace h17 := (hold 17 (slots_not (by kernel_rfl))).trans h17
      replace h18 := (hold 18 (slots_not (by kernel_rfl))).trans h18
      clear hold hout hs hall hne
      simp only [List.drop_succ_cons, List.drop_zero]
      refine st_own 5 tElem rfl (.tmp 19) (.tmp 76) rfl rfl _ _ (eval_tmp h19) (eval_tmp q76) (V' := IsEl ((xt - zt) * (u + v))) v76 (fun x hx => el_row hx) hS 13 rfl fun V9' hS' _ => ?_
      replace hS : Own w [(w.heap.size, 32, (· = .agg (vals Lk))), ((w.heap.size + 1), 32, (· = .agg (vals Lu))), ((w.heap.size + 1 + 1), 32, (fun _ => True)), (gn, 32, (· = .agg (vals (bytesN V)))), (g6, 5, IsEl x1), (g7, 5, IsEl u), (g8, 5, IsEl v), (g9, 5, IsEl xt), (g10, 5, IsEl zt), (g15, 5, IsEl (u + v)), (g16, 5, IsEl (u - v)), (g17, 5, IsEl ((u + v) * (u + v))), (g18, 5, IsEl ((u - v) * (u - v))), (g19, 5, IsEl ((xt - zt) * (u + v))), (g20, 5, (fun _ => True))] V9' := hS'
      clear hS'
      refine st_own 5 tElem rfl (.tmp 20) (.tmp 81) rfl rfl _ _ (eval_tmp h20) (eval_tmp q81) (V' := IsEl ((xt + zt) * (u - v))) v81 (fun x hx => el_row hx) hS 14 rfl fun V9'' hS' _ => ?_
      replace hS : Own w [(w.heap.size, 32, (· = .agg (vals Lk))), ((w.heap.size + 1), 32, (· = .agg (vals Lu))), ((w.heap.size + 1 + 1), 32, (fun _ => True)), (gn, 32, (· = .agg (vals (bytesN V)))), (g6, 5, IsEl x1), (g7, 5, IsEl u), (g8, 5, IsEl v), (g9, 5, IsEl xt), (g10, 5, IsEl zt), (g15, 5, IsEl (u + v)), (g16, 5, IsEl (u - v)), (g17, 5, IsEl ((u + v) * (u + v))), (g18, 5, IsEl ((u - v) * (u - v))), (g19, 5, IsEl ((xt - zt) * (u + v))), (g20, 5, IsEl ((xt + zt) * (u - v)))] V9'' := hS'
      clear hS'
      refine wpList_nil ?_
      have g19 : t1.getD 19 undef = .pointer (some ⟨g19, 0, none⟩) := by rw [Array.getD_eq_getD_getElem?, h19]; rfl
      have g20 : t1.getD 20 undef = .pointer (some ⟨g20, 0, none⟩) := by rw [Array.getD_eq_getD_getElem?, h20]; rfl
      rw [ef, HT]
      clear ef
      simp only [fillA, if_true, List.getD_cons_zero, List.getD_cons_succ, List.setIfInBounds_toArray, List.set_cons_zero, List.set_cons_succ, g19, g20]
      generalize t1.getD 72 undef = z72
      generalize t1.getD 73 undef = z73
      generalize t1.getD 74 undef = z74
      generalize t1.getD 75 undef = z75
      generalize t1.getD 76 undef = z76
      generalize t1.getD 77 undef = z77
      generalize t1.getD 78 undef = z78
      generalize t1.getD 79 undef = z79
      generalize t1.getD 80 undef = z80
      generalize t1.getD 81 undef = z81
      clear g19 g20 HT
      clear h4 h5 h6 h7 h8 h9 h10 h15 h16 h17 h18 h19 h20 q76 q81 v76 v81 b19 b20 r19 r20 n19_20 ltM hMB hM HS t1 t0 M
      go_wp2_with ((with_reducible refine guard_list ?_); first | (refine held_load 26 _ rfl ?_) | (refine held_load 22 _ rfl ?_) | (refine held_load 68 _ rfl ?_))
      obtain ⟨M, hM⟩ : ∃ M, M = V9''.heap.size := ⟨_, rfl⟩
      have hMB : w.heap.size ≤ M := hM ▸ hS.1.size
      have ltM := hS.lt
      rw [← hM] at ltM
      refine hide_held fun t0 HT => ?_
      have HS : t0.size = 125 := by rw [HT]; rfl
      have h4 : t0[4]? = some (.pointer (some ⟨(w.heap.size + 1 + 1), 0, none⟩)) := by rw [HT]; rfl
      have h5 : t0[5]? = some (.pointer (some ⟨gn, 0, none⟩)) := by rw [HT]; rfl
      have h6 : t0[6]? = some (.pointer (some ⟨g6, 0, none⟩)) := by rw [HT]; rfl
      have h7 : t0[7]? = some (.pointer (some ⟨g7, 0, none⟩)) := by rw [HT]; rfl
      have h8 : t0[8]? = some (.pointer (some ⟨g8, 0, none⟩)) := by rw [HT]; rfl
      have h9 : t0[9]? = some (.pointer (some ⟨g9, 0, none⟩)) := by rw [HT]; rfl
      have h10 : t0[10]? = some (.pointer (some ⟨g10, 0, none⟩)) := by rw [HT]; rfl
      have h15 : t0[15]? = some (.pointer (some ⟨g15, 0, none⟩)) := by rw [HT]; rfl
      have h16 : t0[16]? = some (.pointer (some ⟨g16, 0, none⟩)) := by rw [HT]; rfl
      have h17 : t0[17]? = some (.pointer (some ⟨g17, 0, none⟩)) := by rw [HT]; rfl
      have h18 : t0[18]? = some (.pointer (some ⟨g18, 0, none⟩)) := by rw [HT]; rfl
      have h19 : t0[19]? = some (.pointer (some ⟨g19, 0, none⟩)) := by rw [HT]; rfl
      have h20 : t0[20]? = some (.pointer (some ⟨g20, 0, none⟩)) := by rw [HT]; rfl
      refine wp_list_most 4 (fun i => [82, 83, 84, 21].getD i 0) (fun i => [none, none, none, some 5].getD i none) (fun i => [IsEl ((u + v) * (u + v)), IsEl ((u - v) * (u - v)), IsEl (((u + v) * (u + v)) - ((u - v) * (u - v))), (fun _ => True)].getD i (fun _ => True)) (fun w' => Own w [(w.heap.size, 32, (· = .agg (vals Lk))), ((w.heap.size + 1), 32, (· = .agg (vals Lu))), ((w.heap.size + 1 + 1), 32, (fun _ => True)), (gn, 32, (· = .agg (vals (bytesN V)))), (g6, 5, IsEl x1), (g7, 5, IsEl u), (g8, 5, IsEl v), (g9, 5, IsEl xt), (g10, 5, IsEl zt), (g15, 5, IsEl (u + v)), (g16, 5, IsEl (u - v)), (g17, 5, IsEl ((u + v) * (u + v))), (g18, 5, IsEl ((u - v) * (u - v))), (g19, 5, IsEl ((xt - zt) * (u + v))), (g20, 5, IsEl ((xt + zt) * (u - v)))] w' ∧ M ≤ w'.heap.size) M
        (by kernel_rfl) (slots_apart (by kernel_rfl)) (slots_lie (by rw [HS]; kernel_rfl)) ⟨hS, Nat.le_of_eq hM⟩ (fun w' h => h.2) (fun w1 w2 h b => ⟨h.1.keep b, Nat.le_trans h.2 b.size⟩) ?_ ?_ ?_
      · clear hS
        intro i o hi ho hA
        have hc : i = 0 ∨ i = 1 ∨ i = 2 ∨ i = 3 := by omega
        rcases hc with rfl | rfl | rfl | rfl
        · obtain rfl := Option.some.inj ho
          refine ⟨rfl, fun a w' hS hold hin K hK => ?_⟩
          refine if_always rfl ?_
          exact op_ld_own 5 tElem (.tmp 17) rfl rfl _ (eval_tmp ((hold 17 (slots_not (by kernel_rfl))).trans h17)) hS.1 11 rfl hK
        · obtain rfl := Option.some.inj ho
          refine ⟨rfl, fun a w' hS hold hin K hK => ?_⟩
          refine if_always rfl ?_
          exact op_ld_own 5 tElem (.tmp 18) rfl rfl _ (eval_tmp ((hold 18 (slots_not (by kernel_rfl))).trans h18)) hS.1 12 rfl hK
        · obtain rfl := Option.some.inj ho
          refine ⟨rfl, fun a w' hS hold hin K hK => ?_⟩
          obtain ⟨y0, x0, (v0 : IsEl ((u + v) * (u + v)) y0)⟩ := hin 0 rfl (by omega) rfl
          obtain ⟨y1, x1, (v1 : IsEl ((u - v) * (u - v)) y1)⟩ := hin 1 rfl (by omega) rfl
          refine if_always rfl ?_
          exact op_fn2 _ _ _ _ _ _ rfl rfl (eval_tmp x0) (eval_tmp x1) (by intro args w; kernel_rfl) (sub_el v0 v1 _) hK
        · cases hA
      · intro i o sz hi ho hA
        have hc : i = 0 ∨ i = 1 ∨ i = 2 ∨ i = 3 := by omega
        rcases hc with rfl | rfl | rfl | rfl
        · cases hA
        · cases hA
        · cases hA
        · obtain rfl := Option.some.inj ho
          obtain rfl := Option.some.inj hA
          exact ⟨rfl, rfl, 26, #[.int .u64 0, .int .u64 0, .int .u64 0, .int .u64 0, .int .u64 0], rfl, fun a w' K h => wp_new 26 #[.int .u64 0, .int .u64 0, .int .u64 0, .int .u64 0, .int .u64 0] (fun w => by kernel_rfl) h⟩
      clear hS
      intro t1 V10 hs hold hout hall hne hS
      have ef := frame_fill 4 (fun i => [82, 83, 84, 21].getD i 0) hs hold (slots_apart (by kernel_rfl)) (slots_lie (by rw [HS]; kernel_rfl))
      replace HS := hs.trans HS
      replace hS := hS.1
      obtain ⟨g21, h21, b21, r21⟩ : ∃ g, t1[21]? = some (.pointer (some ⟨g, 0, none⟩)) ∧ M ≤ g ∧ ∃ cs ty, V10.heap[g]? = some (.cells cs ty (0, 0)) ∧ cs.size = 5 := by
        obtain ⟨g, p1, p2, ty, cs, p3, p4⟩ := hall 3 (by omega) 5 rfl
        exact ⟨g, p1, p2, cs, ty, p3, p4⟩
      replace hS : Own w [(w.heap.size, 32, (· = .agg (vals Lk))), ((w.heap.size + 1), 32, (· = .agg (vals Lu))), ((w.heap.size + 1 + 1), 32, (fun _ => True)), (gn, 32, (· = .agg (vals (bytesN V)))), (g6, 5, IsEl x1), (g7, 5, IsEl u), (g8, 5, IsEl v), (g9, 5, IsEl xt), (g10, 5, IsEl zt), (g15, 5, IsEl (u + v)), (g16, 5, IsEl (u - v)), (g17, 5, IsEl ((u + v) * (u + v))), (g18, 5, IsEl ((u - v) * (u - v))), (g19, 5, IsEl ((xt - zt) * (u + v))), (g20, 5, IsEl ((xt + zt) * (u - v))), (g21, 5, (fun _ => True))] V10 := hS.add (Nat.le_trans hMB b21) (fun r hr => Nat.ne_of_lt (Nat.lt_of_lt_of_le (ltM r hr) b21)) (Own.any r21)
      obtain ⟨x84, q84, v84⟩ : ∃ x, t1[84]? = some x ∧ (IsEl (((u + v) * (u + v)) - ((u - v) * (u - v)))) x := hout 2 (by omega) rfl
      replace h4 := (hold 4 (slots_not (by kernel_rfl))).trans h4
      replace h5 := (hold 5 (slots_not (by kernel_rfl))).trans h5
      replace h6 := (hold 6 (slots_not (by kernel_rfl))).trans h6
      replace h7 := (hold 7 (slots_not (by kernel_rfl))).trans h7
      replace h8 := (hold 8 (slots_not (by kernel_rfl))).trans h8
      replace h9 := (hold 9 (slots_not (by kernel_rfl))).trans h9
      replace h10 := (hold 10 (slots_not (by kernel_rfl))).trans h10
      replace h15 := (hold 15 (slots_not (by kernel_rfl))).trans h15
      replace h16 := (hold 16 (slots_not (by kernel_rfl))).trans h16
      replace h17 := (hold 17 (slots_not (by kernel_rfl))).trans h17
      replace h18 := (hold 18 (slots_not (by kernel_rfl))).trans h18
      replace h19 := (hold 19 (slots_not (by kernel_rfl))).trans h19
      replace h20 := (hold 20 (slots_not (by kernel_rfl))).trans h20
      clear hold hout hs hall hne
      simp only [List.drop_succ_cons, List.drop_zero]
      refine st_own 5 tElem rfl (.tmp 21) (.tmp 84) rfl rfl _ _ (eval_tmp h21) (eval_tmp q84) (V' := IsEl (((u + v) * (u + v)) - ((u - v) * (u - v)))) v84 (fun x hx => el_row hx) hS 15 rfl fun V10' hS' _ => ?_
      replace hS : Own w [(w.heap.size, 32, (· = .agg (vals Lk))), ((w.heap.size + 1), 32, (· = .agg (vals Lu))), ((w.heap.size + 1 + 1), 32, (fun _ => True)), (gn, 32, (· = .agg (vals (bytesN V)))), (g6, 5, IsEl x1), (g7, 5, IsEl u), (g8, 5, IsEl v), (g9, 5, IsEl xt), (g10, 5, IsEl zt), (g15, 5, IsEl (u + v)), (g16, 5, IsEl (u - v)), (g17, 5, IsEl ((u + v) * (u + v))), (g18, 5, IsEl ((u - v) * (u - v))), (g19, 5, IsEl ((xt - zt) * (u + v))), (g20, 5, IsEl ((xt + zt) * (u - v))), (g21, 5, IsEl (((u + v) * (u + v)) - ((u - v) * (u - v))))] V10' := hS'
      clear hS'
      refine wpList_nil ?_
      have g21 : t1.getD 21 undef = .pointer (some ⟨g21, 0, none⟩) := by rw [Array.getD_eq_getD_getElem?, h21]; rfl
      rw [ef, HT]
      clear ef
      simp only [fillA, if_true, List.getD_cons_zero, List.getD_cons_succ, List.setIfInBounds_toArray, List.set_cons_zero, List.set_cons_succ, g21]
      generalize t1.getD 82 undef = z82
      generalize t1.getD 83 undef = z83
      generalize t1.getD 84 undef = z84
      clear g21 HT
      clear h4 h5 h6 h7 h8 h9 h10 h15 h16 h17 h18 h19 h20 h21 q84 v84 b21 r21 ltM hMB hM HS t1 t0 M
      go_wp2_with ((with_reducible refine guard_list ?_); first | (refine held_load 26 _ rfl ?_) | (refine held_load 22 _ rfl ?_) | (refine held_load 68 _ rfl ?_))
      obtain ⟨M, hM⟩ : ∃ M, M = V10'.heap.size := ⟨_, rfl⟩
      refine hide_held fun t0 HT => ?_
      have HS : t0.size = 125 := by rw [HT]; rfl
      have h4 : t0[4]? = some (.pointer (some ⟨(w.heap.size + 1 + 1), 0, none⟩)) := by rw [HT]; rfl
      have h5 : t0[5]? = some (.pointer (some ⟨gn, 0, none⟩)) := by rw [HT]; rfl
      have h6 : t0[6]? = some (.pointer (some ⟨g6, 0, none⟩)) := by rw [HT]; rfl
      have h7 : t0[7]? = some (.pointer (some ⟨g7, 0, none⟩)) := by rw [HT]; rfl
      have h8 : t0[8]? = some (.pointer (some ⟨g8, 0, none⟩)) := by rw [HT]; rfl
      have h9 : t0[9]? = some (.pointer (some ⟨g9, 0, none⟩)) := by rw [HT]; rfl
      have h10 : t0[10]? = some (.pointer (some ⟨g10, 0, none⟩)) := by rw [HT]; rfl
      have h15 : t0[15]? = some (.pointer (some ⟨g15, 0, none⟩)) := by rw [HT]; rfl
      have h16 : t0[16]? = some (.pointer (some ⟨g16, 0, none⟩)) := by rw [HT]; rfl
      have h17 : t0[17]? = some (.pointer (some ⟨g17, 0, none⟩)) := by rw [HT]; rfl
      have h18 : t0[18]? = some (.pointer (some ⟨g18, 0, none⟩)) := by rw [HT]; rfl
      have h19 : t0[19]? = some (.pointer (some ⟨g19, 0, none⟩)) := by rw [HT]; rfl
      have h20 : t0[20]? = some (.pointer (some ⟨g20, 0, none⟩)) := by rw [HT]; rfl
      have h21 : t0[21]? = some (.pointer (some ⟨g21, 0, none⟩)) := by rw [HT]; rfl
      refine wp_list_most 4 (fun i => [85, 86, 87, 88].getD i 0) (fun _ => none) (fun i => [IsEl ((xt - zt) * (u + v)), IsEl ((xt + zt) * (u - v)), IsEl (((xt - zt) * (u + v)) + ((xt + zt) * (u - v))), IsEl ((((xt - zt) * (u + v)) + ((xt + zt) * (u - v))) * (((xt - zt) * (u + v)) + ((xt + zt) * (u - v))))].getD i (fun _ => True)) (fun w' => Own w [(w.heap.size, 32, (· = .agg (vals Lk))), ((w.heap.size + 1), 32, (· = .agg (vals Lu))), ((w.heap.size + 1 + 1), 32, (fun _ => True)), (gn, 32, (· = .agg (vals (bytesN V)))), (g6, 5, IsEl x1), (g7, 5, IsEl u), (g8, 5, IsEl v), (g9, 5, IsEl xt), (g10, 5, IsEl zt), (g15, 5, IsEl (u + v)), (g16, 5, IsEl (u - v)), (g17, 5, IsEl ((u + v) * (u + v))), (g18, 5, IsEl ((u - v) * (u - v))), (g19, 5, IsEl ((xt - zt) * (u + v))), (g20, 5, IsEl ((xt + zt) * (u - v))), (g21, 5, IsEl (((u + v) * (u + v)) - ((u - v) * (u - v))))] w' ∧ M ≤ w'.heap.size) M
        (by kernel_rfl) (slots_apart (by kernel_rfl)) (slots_lie (by rw [HS]; kernel_rfl)) ⟨hS, Nat.le_of_eq hM⟩ (fun w' h => h.2) (fun w1 w2 h b => ⟨h.1.keep b, Nat.le_trans h.2 b.size⟩) ?_ ?_ ?_
      · clear hS
        intro i o hi ho hA
        have hc : i = 0 ∨ i = 1 ∨ i = 2 ∨ i = 3 := by omega
        rcases hc with rfl | rfl | rfl | rfl
        · obtain rfl := Option.some.inj ho
          refine ⟨rfl, fun a w' hS hold hin K hK => ?_⟩
          refine if_always rfl ?_
          exact op_ld_own 5 tElem (.tmp 19) rfl rfl _ (eval_tmp ((hold 19 (slots_not (by kernel_rfl))).trans h19)) hS.1 13 rfl hK
        · obtain rfl := Option.some.inj ho
          refine ⟨rfl, fun a w' hS hold hin K hK => ?_⟩
          refine if_always rfl ?_
          exact op_ld_own 5 tElem (.tmp 20) rfl rfl _ (eval_tmp ((hold 20 (slots_not (by kernel_rfl))).trans h20)) hS.1 14 rfl hK
        · obtain rfl := Option.some.inj ho
          refine ⟨rfl, fun a w' hS hold hin K hK => ?_⟩
          obtain ⟨y0, x0, (v0 : IsEl ((xt - zt) * (u + v)) y0)⟩ := hin 0 rfl (by omega) rfl
          obtain ⟨y1, x1, (v1 : IsEl ((xt + zt) * (u - v)) y1)⟩ := hin 1 rfl (by omega) rfl
          refine if_always rfl ?_
          exact op_fn2 _ _ _ _ _ _ rfl rfl (eval_tmp x0) (eval_tmp x1) (by intro args w; kernel_rfl) (add_el v0 v1 _) hK
        · obtain rfl := Option.some.inj ho
          refine ⟨rfl, fun a w' hS hold hin K hK => ?_⟩
          obtain ⟨y2, x2, (v2 : IsEl (((xt - zt) * (u + v)) + ((xt + zt) * (u - v))) y2)⟩ := hin 2 rfl (by omega) rfl
          refine if_always rfl ?_
          exact op_fn1 _ _ _ _ rfl rfl (eval_tmp x2) (by intro args w; kernel_rfl) (square_el v2 _) hK
      · intro i o sz hi ho hA; cases hA
      clear hS
      intro t1 V11 hs hold hout hall hne hS
      have ef := frame_fill 4 (fun i => [85, 86, 87, 88].getD i 0) hs hold (slots_apart (by kernel_rfl)) (slots_lie (by rw [HS]; kernel_rfl))
      replace HS := hs.trans HS
      replace hS := hS.1
      obtain ⟨x88, q88, v88⟩ : ∃ x, t1[88]? = some x ∧ (IsEl ((((xt - zt) * (u + v)) + ((xt + zt) * (u - v))) * (((xt - zt) * (u + v)) + ((xt + zt) * (u - v))))) x := hout 3 (by omega) rfl
      replace h4 := (hold 4 (slots_not (by kernel_rfl))).trans h4
      replace h5 := (hold 5 (slots_not (by kernel_rfl))).trans h5
      replace h6 := (hold 6 (slots_not (by kernel_rfl))).trans h6
      replace h7 := (hold 7 (slots_not (by kernel_rfl))).trans h7
      replace h8 := (hold 8 (slots_not (by kernel_rfl))).trans h8
      replace h9 := (hold 9 (slots_not (by kernel_rfl))).trans h9
      replace h10 := (hold 10 (slots_not (by kernel_rfl))).trans h10
      replace h15 := (hold 15 (slots_not (by kernel_rfl))).trans h15
      replace h16 := (hold 16 (slots_not (by kernel_rfl))).trans h16
      replace h17 := (hold 17 (slots_not (by kernel_rfl))).trans h17
      replace h18 := (hold 18 (slots_not (by kernel_rfl))).trans h18
      replace h19 := (hold 19 (slots_not (by kernel_rfl))).trans h19
      replace h20 := (hold 20 (slots_not (by kernel_rfl))).trans h20
      replace h21 := (hold 21 (slots_not (by kernel_rfl))).trans h21
      clear hold hout hs hall hne
      simp only [List.drop_succ_cons, List.drop_zero]
      refine st_own 5 tElem rfl (.tmp 9) (.tmp 88) rfl rfl _ _ (eval_tmp h9) (eval_tmp q88) (V' := IsEl ((((xt - zt) * (u + v)) + ((xt + zt) * (u - v))) * (((xt - zt) * (u + v)) + ((xt + zt) * (u - v))))) v88 (fun x hx => el_row hx) hS 7 rfl fun V11' hS' _ => ?_
      replace hS : Own w [(w.heap.size, 32, (· = .agg (vals Lk))), ((w.heap.size + 1), 32, (· = .agg (vals Lu))), ((w.heap.size + 1 + 1), 32, (fun _ => True)), (gn, 32, (· = .agg (vals (bytesN V)))), (g6, 5, IsEl x1), (g7, 5, IsEl u), (g8, 5, IsEl v), (g9, 5, IsEl ((((xt - zt) * (u + v)) + ((xt + zt) * (u - v))) * (((xt - zt) * (u + v)) + ((xt + zt) * (u - v))))), (g10, 5, IsEl zt), (g15, 5, IsEl (u + v)), (g16, 5, IsEl (u - v)), (g17, 5, IsEl ((u + v) * (u + v))), (g18, 5, IsEl ((u - v) * (u - v))), (g19, 5, IsEl ((xt - zt) * (u + v))), (g20, 5, IsEl ((xt + zt) * (u - v))), (g21, 5, IsEl (((u + v) * (u + v)) - ((u - v) * (u - v))))] V11' := hS'
      clear hS'
      refine wpList_nil ?_
      rw [ef, HT]
      clear ef
      simp only [fillA, if_true, List.getD_cons_zero, List.getD_cons_succ, List.setIfInBounds_toArray, List.set_cons_zero, List.set_cons_succ]
      generalize t1.getD 85 undef = z85
      generalize t1.getD 86 undef = z86
      generalize t1.getD 87 undef = z87
      generalize t1.getD 88 undef = z88
      clear HT
      clear h4 h5 h6 h7 h8 h9 h10 h15 h16 h17 h18 h19 h20 h21 q88 v88 hM HS t1 t0 M
      go_wp2_with fail
      obtain ⟨M, hM⟩ : ∃ M, M = V11'.heap.size := ⟨_, rfl⟩
      refine hide_frame fun t0 HT => ?_
      have HS : t0.size = 125 := by rw [HT]; rfl
      have h4 : t0[4]? = some (.pointer (some ⟨(w.heap.size + 1 + 1), 0, none⟩)) := by rw [HT]; rfl
      have h5 : t0[5]? = some (.pointer (some ⟨gn, 0, none⟩)) := by rw [HT]; rfl
      have h6 : t0[6]? = some (.pointer (some ⟨g6, 0, none⟩)) := by rw [HT]; rfl
      have h7 : t0[7]? = some (.pointer (some ⟨g7, 0, none⟩)) := by rw [HT]; rfl
      have h8 : t0[8]? = some (.pointer (some ⟨g8, 0, none⟩)) := by rw [HT]; rfl
      have h9 : t0[9]? = some (.pointer (some ⟨g9, 0, none⟩)) := by rw [HT]; rfl
      have h10 : t0[10]? = some (.pointer (some ⟨g10, 0, none⟩)) := by rw [HT]; rfl
      have h15 : t0[15]? = some (.pointer (some ⟨g15, 0, none⟩)) := by rw [HT]; rfl
      have h16 : t0[16]? = some (.pointer (some ⟨g16, 0, none⟩)) := by rw [HT]; rfl
      have h17 : t0[17]? = some (.pointer (some ⟨g17, 0, none⟩)) := by rw [HT]; rfl
      have h18 : t0[18]? = some (.pointer (some ⟨g18, 0, none⟩)) := by rw [HT]; rfl
      have h19 : t0[19]? = some (.pointer (some ⟨g19, 0, none⟩)) := by rw [HT]; rfl
      have h20 : t0[20]? = some (.pointer (some ⟨g20, 0, none⟩)) := by rw [HT]; rfl
      have h21 : t0[21]? = some (.pointer (some ⟨g21, 0, none⟩)) := by rw [HT]; rfl
      refine wp_region_most 6 (fun i => [89, 90, 91, 92, 93, 94].getD i 0) (fun _ => none) (fun i => [IsEl x1, IsEl ((xt - zt) * (u + v)), IsEl ((xt + zt) * (u - v)), IsEl (((xt - zt) * (u + v)) - ((xt + zt) * (u - v))), IsEl ((((xt - zt) * (u + v)) - ((xt + zt) * (u - v))) * (((xt - zt) * (u + v)) - ((xt + zt) * (u - v)))), IsEl (x1 * ((((xt - zt) * (u + v)) - ((xt + zt) * (u - v))) * (((xt - zt) * (u + v)) - ((xt + zt) * (u - v)))))].getD i (fun _ => True)) (fun w' => Own w [(w.heap.size, 32, (· = .agg (vals Lk))), ((w.heap.size + 1), 32, (· = .agg (vals Lu))), ((w.heap.size + 1 + 1), 32, (fun _ => True)), (gn, 32, (· = .agg (vals (bytesN V)))), (g6, 5, IsEl x1), (g7, 5, IsEl u), (g8, 5, IsEl v), (g9, 5, IsEl ((((xt - zt) * (u + v)) + ((xt + zt) * (u - v))) * (((xt - zt) * (u + v)) + ((xt + zt) * (u - v))))), (g10, 5, IsEl zt), (g15, 5, IsEl (u + v)), (g16, 5, IsEl (u - v)), (g17, 5, IsEl ((u + v) * (u + v))), (g18, 5, IsEl ((u - v) * (u - v))), (g19, 5, IsEl ((xt - zt) * (u + v))), (g20, 5, IsEl ((xt + zt) * (u - v))), (g21, 5, IsEl (((u + v) * (u + v)) - ((u - v) * (u - v))))] w' ∧ M ≤ w'.heap.size) M
        (by kernel_rfl) (by kernel_rfl) (slots_apart (by kernel_rfl)) (slots_lie (by rw [HS]; kernel_rfl)) ⟨hS.drew, Nat.le_of_eq hM⟩ (fun w' h => h.2) (fun w1 w2 h b => ⟨h.1.keep b, Nat.le_trans h.2 b.size⟩) ?_ ?_ ?_
      · clear hS
        intro i o hi ho hA
        have hc : i = 0 ∨ i = 1 ∨ i = 2 ∨ i = 3 ∨ i = 4 ∨ i = 5 := by omega
        rcases hc with rfl | rfl | rfl | rfl | rfl | rfl
        · obtain rfl := Option.some.inj ho
          refine ⟨rfl, fun a w' hS hold hin K hK => ?_⟩
          refine if_always rfl ?_
          exact op_ld_own 5 tElem (.tmp 6) rfl rfl _ (eval_tmp ((hold 6 (slots_not (by kernel_rfl))).trans h6)) hS.1 4 rfl hK
        · obtain rfl := Option.some.inj ho
          refine ⟨rfl, fun a w' hS hold hin K hK => ?_⟩
          refine if_always rfl ?_
          exact op_ld_own 5 tElem (.tmp 19) rfl rfl _ (eval_tmp ((hold 19 (slots_not (by kernel_rfl))).trans h19)) hS.1 13 rfl hK
        · obtain rfl := Option.some.inj ho
          refine ⟨rfl, fun a w' hS hold hin K hK => ?_⟩
          refine if_always rfl ?_
          exact op_ld_own 5 tElem (.tmp 20) rfl rfl _ (eval_tmp ((hold 20 (slots_not (by kernel_rfl))).trans h20)) hS.1 14 rfl hK
        · obtain rfl := Option.some.inj ho
          refine ⟨rfl, fun a w' hS hold hin K hK => ?_⟩
          obtain ⟨y1, x1, (v1 : IsEl ((xt - zt) * (u + v)) y1)⟩ := hin 1 rfl (by omega) rfl
          obtain ⟨y2, x2, (v2 : IsEl ((xt + zt) * (u - v)) y2)⟩ := hin 2 rfl (by omega) rfl
          refine if_always rfl ?_
          exact op_fn2 _ _ _ _ _ _ rfl rfl (eval_tmp x1) (eval_tmp x2) (by intro args w; kernel_rfl) (sub_el v1 v2 _) hK
        · obtain rfl := Option.some.inj ho
          refine ⟨rfl, fun a w' hS hold hin K hK => ?_⟩
          obtain ⟨y3, x3, (v3 : IsEl (((xt - zt) * (u + v)) - ((xt + zt) * (u - v))) y3)⟩ := hin 3 rfl (by omega) rfl
          refine if_always rfl ?_
          exact op_fn1 _ _ _ _ rfl rfl (eval_tmp x3) (by intro args w; kernel_rfl) (square_el v3 _) hK
        · obtain rfl := Option.some.inj ho
          refine ⟨rfl, fun a w' hS hold hin K hK => ?_⟩
          obtain ⟨y0, x0, (v0 : IsEl x1 y0)⟩ := hin 0 rfl (by omega) rfl
          obtain ⟨y4, x4, (v4 : IsEl ((((xt - zt) * (u + v)) - ((xt + zt) * (u - v))) * (((xt - zt) * (u + v)) - ((xt + zt) * (u - v)))) y4)⟩ := hin 4 rfl (by omega) rfl
          refine if_always rfl ?_
          exact op_fn2 _ _ _ _ _ _ rfl rfl (eval_tmp x0) (eval_tmp x4) (by intro args w; kernel_rfl) (mul_el v0 v4 _) hK
      · intro i o sz hi ho hA; cases hA
      clear hS
      intro t1 V12 hs hold hout hall hne hS
      have ef := frame_fill 6 (fun i => [89, 90, 91, 92, 93, 94].getD i 0) hs hold (slots_apart (by kernel_rfl)) (slots_lie (by rw [HS]; kernel_rfl))
      replace HS := hs.trans HS
      replace hS := hS.1
      obtain ⟨x94, q94, v94⟩ : ∃ x, t1[94]? = some x ∧ (IsEl (x1 * ((((xt - zt) * (u + v)) - ((xt + zt) * (u - v))) * (((xt - zt) * (u + v)) - ((xt + zt) * (u - v)))))) x := hout 5 (by omega) rfl
      replace h4 := (hold 4 (slots_not (by kernel_rfl))).trans h4
      replace h5 := (hold 5 (slots_not (by kernel_rfl))).trans h5
      replace h6 := (hold 6 (slots_not (by kernel_rfl))).trans h6
      replace h7 := (hold 7 (slots_not (by kernel_rfl))).trans h7
      replace h8 := (hold 8 (slots_not (by kernel_rfl))).trans h8
      replace h9 := (hold 9 (slots_not (by kernel_rfl))).trans h9
      replace h10 := (hold 10 (slots_not (by kernel_rfl))).trans h10
      replace h15 := (hold 15 (slots_not (by kernel_rfl))).trans h15
      replace h16 := (hold 16 (slots_not (by kernel_rfl))).trans h16
      replace h17 := (hold 17 (slots_not (by kernel_rfl))).trans h17
      replace h18 := (hold 18 (slots_not (by kernel_rfl))).trans h18
      replace h19 := (hold 19 (slots_not (by kernel_rfl))).trans h19
      replace h20 := (hold 20 (slots_not (by kernel_rfl))).trans h20
      replace h21 := (hold 21 (slots_not (by kernel_rfl))).trans h21
      clear hold hout hs hall hne
      simp only [List.drop_succ_cons, List.drop_zero]
      refine st_own 5 tElem rfl (.tmp 10) (.tmp 94) rfl rfl _ _ (eval_tmp h10) (eval_tmp q94) (V' := IsEl (x1 * ((((xt - zt) * (u + v)) - ((xt + zt) * (u - v))) * (((xt - zt) * (u + v)) - ((xt + zt) * (u - v)))))) v94 (fun x hx => el_row hx) hS 8 rfl fun V12' hS' _ => ?_
      replace hS : Own w [(w.heap.size, 32, (· = .agg (vals Lk))), ((w.heap.size + 1), 32, (· = .agg (vals Lu))), ((w.heap.size + 1 + 1), 32, (fun _ => True)), (gn, 32, (· = .agg (vals (bytesN V)))), (g6, 5, IsEl x1), (g7, 5, IsEl u), (g8, 5, IsEl v), (g9, 5, IsEl ((((xt - zt) * (u + v)) + ((xt + zt) * (u - v))) * (((xt - zt) * (u + v)) + ((xt + zt) * (u - v))))), (g10, 5, IsEl (x1 * ((((xt - zt) * (u + v)) - ((xt + zt) * (u - v))) * (((xt - zt) * (u + v)) - ((xt + zt) * (u - v)))))), (g15, 5, IsEl (u + v)), (g16, 5, IsEl (u - v)), (g17, 5, IsEl ((u + v) * (u + v))), (g18, 5, IsEl ((u - v) * (u - v))), (g19, 5, IsEl ((xt - zt) * (u + v))), (g20, 5, IsEl ((xt + zt) * (u - v))), (g21, 5, IsEl (((u + v) * (u + v)) - ((u - v) * (u - v))))] V12' := hS'
      clear hS'
      refine wpList_nil ?_
      rw [ef, HT]
      clear ef
      simp only [fillA, if_true, List.getD_cons_zero, List.getD_cons_succ, List.setIfInBounds_toArray, List.set_cons_zero, List.set_cons_succ]
      generalize t1.getD 89 undef = z89
      generalize t1.getD 90 undef = z90
      generalize t1.getD 91 undef = z91
      generalize t1.getD 92 undef = z92
      generalize t1.getD 93 undef = z93
      generalize t1.getD 94 undef = z94
      clear HT
      clear h4 h5 h6 h7 h8 h9 h10 h15 h16 h17 h18 h19 h20 h21 q94 v94 hM HS t1 t0 M
      go_wp2_with ((with_reducible refine guard_list ?_); first | (refine held_load 26 _ rfl ?_) | (refine held_load 22 _ rfl ?_) | (refine held_load 68 _ rfl ?_))
      obtain ⟨M, hM⟩ : ∃ M, M = V12'.heap.size := ⟨_, rfl⟩
      refine hide_held fun t0 HT => ?_
      have HS : t0.size = 125 := by rw [HT]; rfl
      have h4 : t0[4]? = some (.pointer (some ⟨(w.heap.size + 1 + 1), 0, none⟩)) := by rw [HT]; rfl
      have h5 : t0[5]? = some (.pointer (some ⟨gn, 0, none⟩)) := by rw [HT]; rfl
      have h6 : t0[6]? = some (.pointer (some ⟨g6, 0, none⟩)) := by rw [HT]; rfl
      have h7 : t0[7]? = some (.pointer (some ⟨g7, 0, none⟩)) := by rw [HT]; rfl
      have h8 : t0[8]? = some (.pointer (some ⟨g8, 0, none⟩)) := by rw [HT]; rfl
      have h9 : t0[9]? = some (.pointer (some ⟨g9, 0, none⟩)) := by rw [HT]; rfl
      have h10 : t0[10]? = some (.pointer (some ⟨g10, 0, none⟩)) := by rw [HT]; rfl
      have h15 : t0[15]? = some (.pointer (some ⟨g15, 0, none⟩)) := by rw [HT]; rfl
      have h16 : t0[16]? = some (.pointer (some ⟨g16, 0, none⟩)) := by rw [HT]; rfl
      have h17 : t0[17]? = some (.pointer (some ⟨g17, 0, none⟩)) := by rw [HT]; rfl
      have h18 : t0[18]? = some (.pointer (some ⟨g18, 0, none⟩)) := by rw [HT]; rfl
      have h19 : t0[19]? = some (.pointer (some ⟨g19, 0, none⟩)) := by rw [HT]; rfl
      have h20 : t0[20]? = some (.pointer (some ⟨g20, 0, none⟩)) := by rw [HT]; rfl
      have h21 : t0[21]? = some (.pointer (some ⟨g21, 0, none⟩)) := by rw [HT]; rfl
      refine wp_list_most 3 (fun i => [95, 96, 97].getD i 0) (fun _ => none) (fun i => [IsEl ((u + v) * (u + v)), IsEl ((u - v) * (u - v)), IsEl (((u + v) * (u + v)) * ((u - v) * (u - v)))].getD i (fun _ => True)) (fun w' => Own w [(w.heap.size, 32, (· = .agg (vals Lk))), ((w.heap.size + 1), 32, (· = .agg (vals Lu))), ((w.heap.size + 1 + 1), 32, (fun _ => True)), (gn, 32, (· = .agg (vals (bytesN V)))), (g6, 5, IsEl x1), (g7, 5, IsEl u), (g8, 5, IsEl v), (g9, 5, IsEl ((((xt - zt) * (u + v)) + ((xt + zt) * (u - v))) * (((xt - zt) * (u + v)) + ((xt + zt) * (u - v))))), (g10, 5, IsEl (x1 * ((((xt - zt) * (u + v)) - ((xt + zt) * (u - v))) * (((xt - zt) * (u + v)) - ((xt + zt) * (u - v)))))), (g15, 5, IsEl (u + v)), (g16, 5, IsEl (u - v)), (g17, 5, IsEl ((u + v) * (u + v))), (g18, 5, IsEl ((u - v) * (u - v))), (g19, 5, IsEl ((xt - zt) * (u + v))), (g20, 5, IsEl ((xt + zt) * (u - v))), (g21, 5, IsEl (((u + v) * (u + v)) - ((u - v) * (u - v))))] w' ∧ M ≤ w'.heap.size) M
        (by kernel_rfl) (slots_apart (by kernel_rfl)) (slots_lie (by rw [HS]; kernel_rfl)) ⟨hS, Nat.le_of_eq hM⟩ (fun w' h => h.2) (fun w1 w2 h b => ⟨h.1.keep b, Nat.le_trans h.2 b.size⟩) ?_ ?_ ?_
      · clear hS
        intro i o hi ho hA
        have hc : i = 0 ∨ i = 1 ∨ i = 2 := by omega
        rcases hc with rfl | rfl | rfl
        · obtain rfl := Option.some.inj ho
          refine ⟨rfl, fun a w' hS hold hin K hK => ?_⟩
          refine if_always rfl ?_
          exact op_ld_own 5 tElem (.tmp 17) rfl rfl _ (eval_tmp ((hold 17 (slots_not (by kernel_rfl))).trans h17)) hS.1 11 rfl hK
        · obtain rfl := Option.some.inj ho
          refine ⟨rfl, fun a w' hS hold hin K hK => ?_⟩
          refine if_always rfl ?_
          exact op_ld_own 5 tElem (.tmp 18) rfl rfl _ (eval_tmp ((hold 18 (slots_not (by kernel_rfl))).trans h18)) hS.1 12 rfl hK
        · obtain rfl := Option.some.inj ho
          refine ⟨rfl, fun a w' hS hold hin K hK => ?_⟩
          obtain ⟨y0, x0, (v0 : IsEl ((u + v) * (u + v)) y0)⟩ := hin 0 rfl (by omega) rfl
          obtain ⟨y1, x1, (v1 : IsEl ((u - v) * (u - v)) y1)⟩ := hin 1 rfl (by omega) rfl
          refine if_always rfl ?_
          exact op_fn2 _ _ _ _ _ _ rfl rfl (eval_tmp x0) (eval_tmp x1) (by intro args w; kernel_rfl) (mul_el v0 v1 _) hK
      · intro i o sz hi ho hA; cases hA
      clear hS
      intro t1 V13 hs hold hout hall hne hS
      have ef := frame_fill 3 (fun i => [95, 96, 97].getD i 0) hs hold (slots_apart (by kernel_rfl)) (slots_lie (by rw [HS]; kernel_rfl))
      replace HS := hs.trans HS
      replace hS := hS.1
      obtain ⟨x97, q97, v97⟩ : ∃ x, t1[97]? = some x ∧ (IsEl (((u + v) * (u + v)) * ((u - v) * (u - v)))) x := hout 2 (by omega) rfl
      replace h4 := (hold 4 (slots_not (by kernel_rfl))).trans h4
      replace h5 := (hold 5 (slots_not (by kernel_rfl))).trans h5
      replace h6 := (hold 6 (slots_not (by kernel_rfl))).trans h6
      replace h7 := (hold 7 (slots_not (by kernel_rfl))).trans h7
      replace h8 := (hold 8 (slots_not (by kernel_rfl))).trans h8
      replace h9 := (hold 9 (slots_not (by kernel_rfl))).trans h9
      replace h10 := (hold 10 (slots_not (by kernel_rfl))).trans h10
      replace h15 := (hold 15 (slots_not (by kernel_rfl))).trans h15
      replace h16 := (hold 16 (slots_not (by kernel_rfl))).trans h16
      replace h17 := (hold 17 (slots_not (by kernel_rfl))).trans h17
      replace h18 := (hold 18 (slots_not (by kernel_rfl))).trans h18
      replace h19 := (hold 19 (slots_not (by kernel_rfl))).trans h19
      replace h20 := (hold 20 (slots_not (by kernel_rfl))).trans h20
      replace h21 := (hold 21 (slots_not (by kernel_rfl))).trans h21
      clear hold hout hs hall hne
      simp only [List.drop_succ_cons, List.drop_zero]
      refine st_own 5 tElem rfl (.tmp 7) (.tmp 97) rfl rfl _ _ (eval_tmp h7) (eval_tmp q97) (V' := IsEl (((u + v) * (u + v)) * ((u - v) * (u - v)))) v97 (fun x hx => el_row hx) hS 5 rfl fun V13' hS' _ => ?_
      replace hS : Own w [(w.heap.size, 32, (· = .agg (vals Lk))), ((w.heap.size + 1), 32, (· = .agg (vals Lu))), ((w.heap.size + 1 + 1), 32, (fun _ => True)), (gn, 32, (· = .agg (vals (bytesN V)))), (g6, 5, IsEl x1), (g7, 5, IsEl (((u + v) * (u + v)) * ((u - v) * (u - v)))), (g8, 5, IsEl v), (g9, 5, IsEl ((((xt - zt) * (u + v)) + ((xt + zt) * (u - v))) * (((xt - zt) * (u + v)) + ((xt + zt) * (u - v))))), (g10, 5, IsEl (x1 * ((((xt - zt) * (u + v)) - ((xt + zt) * (u - v))) * (((xt - zt) * (u + v)) - ((xt + zt) * (u - v)))))), (g15, 5, IsEl (u + v)), (g16, 5, IsEl (u - v)), (g17, 5, IsEl ((u + v) * (u + v))), (g18, 5, IsEl ((u - v) * (u - v))), (g19, 5, IsEl ((xt - zt) * (u + v))), (g20, 5, IsEl ((xt + zt) * (u - v))), (g21, 5, IsEl (((u + v) * (u + v)) - ((u - v) * (u - v))))] V13' := hS'
      clear hS'
      refine wpList_nil ?_
      rw [ef, HT]
      clear ef
      simp only [fillA, if_true, List.getD_cons_zero, List.getD_cons_succ, List.setIfInBounds_toArray, List.set_cons_zero, List.set_cons_succ]
      generalize t1.getD 95 undef = z95
      generalize t1.getD 96 undef = z96
      generalize t1.getD 97 undef = z97
      clear HT
      clear h4 h5 h6 h7 h8 h9 h10 h15 h16 h17 h18 h19 h20 h21 q97 v97 hM HS t1 t0 M
      go_wp2_with fail
      obtain ⟨M, hM⟩ : ∃ M, M = V13'.heap.size := ⟨_, rfl⟩
      refine hide_frame fun t0 HT => ?_
      have HS : t0.size = 125 := by rw [HT]; rfl
      have h4 : t0[4]? = some (.pointer (some ⟨(w.heap.size + 1 + 1), 0, none⟩)) := by rw [HT]; rfl
      have h5 : t0[5]? = some (.pointer (some ⟨gn, 0, none⟩)) := by rw [HT]; rfl
      have h6 : t0[6]? = some (.pointer (some ⟨g6, 0, none⟩)) := by rw [HT]; rfl
      have h7 : t0[7]? = some (.pointer (some ⟨g7, 0, none⟩)) := by rw [HT]; rfl
      have h8 : t0[8]? = some (.pointer (some ⟨g8, 0, none⟩)) := by rw [HT]; rfl
      have h9 : t0[9]? = some (.pointer (some ⟨g9, 0, none⟩)) := by rw [HT]; rfl
      have h10 : t0[10]? = some (.pointer (some ⟨g10, 0, none⟩)) := by rw [HT]; rfl
      have h15 : t0[15]? = some (.pointer (some ⟨g15, 0, none⟩)) := by rw [HT]; rfl
      have h16 : t0[16]? = some (.pointer (some ⟨g16, 0, none⟩)) := by rw [HT]; rfl
      have h17 : t0[17]? = some (.pointer (some ⟨g17, 0, none⟩)) := by rw [HT]; rfl
      have h18 : t0[18]? = some (.pointer (some ⟨g18, 0, none⟩)) := by rw [HT]; rfl
      have h19 : t0[19]? = some (.pointer (some ⟨g19, 0, none⟩)) := by rw [HT]; rfl
      have h20 : t0[20]? = some (.pointer (some ⟨g20, 0, none⟩)) := by rw [HT]; rfl
      have h21 : t0[21]? = some (.pointer (some ⟨g21, 0, none⟩)) := by rw [HT]; rfl
      refine wp_region_most 6 (fun i => [98, 99, 100, 101, 102, 103].getD i 0) (fun _ => none) (fun i => [IsEl (((u + v) * (u + v)) - ((u - v) * (u - v))), IsEl ((u + v) * (u + v)), IsEl (((u + v) * (u + v)) - ((u - v) * (u - v))), IsEl ((((u + v) * (u + v)) - ((u - v) * (u - v))) * 121665), IsEl (((u + v) * (u + v)) + ((((u + v) * (u + v)) - ((u - v) * (u - v))) * 121665)), IsEl ((((u + v) * (u + v)) - ((u - v) * (u - v))) * (((u + v) * (u + v)) + ((((u + v) * (u + v)) - ((u - v) * (u - v))) * 121665)))].getD i (fun _ => True)) (fun w' => Own w [(w.heap.size, 32, (· = .agg (vals Lk))), ((w.heap.size + 1), 32, (· = .agg (vals Lu))), ((w.heap.size + 1 + 1), 32, (fun _ => True)), (gn, 32, (· = .agg (vals (bytesN V)))), (g6, 5, IsEl x1), (g7, 5, IsEl (((u + v) * (u + v)) * ((u - v) * (u - v)))), (g8, 5, IsEl v), (g9, 5, IsEl ((((xt - zt) * (u + v)) + ((xt + zt) * (u - v))) * (((xt - zt) * (u + v)) + ((xt + zt) * (u - v))))), (g10, 5, IsEl (x1 * ((((xt - zt) * (u + v)) - ((xt + zt) * (u - v))) * (((xt - zt) * (u + v)) - ((xt + zt) * (u - v)))))), (g15, 5, IsEl (u + v)), (g16, 5, IsEl (u - v)), (g17, 5, IsEl ((u + v) * (u + v))), (g18, 5, IsEl ((u - v) * (u - v))), (g19, 5, IsEl ((xt - zt) * (u + v))), (g20, 5, IsEl ((xt + zt) * (u - v))), (g21, 5, IsEl (((u + v) * (u + v)) - ((u - v) * (u - v))))] w' ∧ M ≤ w'.heap.size) M
        (by kernel_rfl) (by kernel_rfl) (slots_apart (by kernel_rfl)) (slots_lie (by rw [HS]; kernel_rfl)) ⟨hS.drew, Nat.le_of_eq hM⟩ (fun w' h => h.2) (fun w1 w2 h b => ⟨h.1.keep b, Nat.le_trans h.2 b.size⟩) ?_ ?_ ?_
      · clear hS
        intro i o hi ho hA
        have hc : i = 0 ∨ i = 1 ∨ i = 2 ∨ i = 3 ∨ i = 4 ∨ i = 5 := by omega
        rcases hc with rfl | rfl | rfl | rfl | rfl | rfl
        · obtain rfl := Option.some.inj ho
          refine ⟨rfl, fun a w' hS hold hin K hK => ?_⟩
          refine if_always rfl ?_
          exact op_ld_own 5 tElem (.tmp 21) rfl rfl _ (eval_tmp ((hold 21 (slots_not (by kernel_rfl))).trans h21)) hS.1 15 rfl hK
        · obtain rfl := Option.some.inj ho
          refine ⟨rfl, fun a w' hS hold hin K hK => ?_⟩
          refine if_always rfl ?_
          exact op_ld_own 5 tElem (.tmp 17) rfl rfl _ (eval_tmp ((hold 17 (slots_not (by kernel_rfl))).trans h17)) hS.1 11 rfl hK
        · obtain rfl := Option.some.inj ho
          refine ⟨rfl, fun a w' hS hold hin K hK => ?_⟩
          refine if_always rfl ?_
          exact op_ld_own 5 tElem (.tmp 21) rfl rfl _ (eval_tmp ((hold 21 (slots_not (by kernel_rfl))).trans h21)) hS.1 15 rfl hK
        · obtain rfl := Option.some.inj ho
          refine ⟨rfl, fun a w' hS hold hin K hK => ?_⟩
          obtain ⟨y2, x2, (v2 : IsEl (((u + v) * (u + v)) - ((u - v) * (u - v))) y2)⟩ := hin 2 rfl (by omega) rfl
          refine if_always rfl ?_
          exact op_fn2 _ _ _ _ _ _ rfl rfl (eval_tmp x2) rfl (by intro args w; kernel_rfl) (times24_ev rfl v2 _) hK
        · obtain rfl := Option.some.inj ho
          refine ⟨rfl, fun a w' hS hold hin K hK => ?_⟩
          obtain ⟨y1, x1, (v1 : IsEl ((u + v) * (u + v)) y1)⟩ := hin 1 rfl (by omega) rfl
          obtain ⟨y3, x3, (v3 : IsEl ((((u + v) * (u + v)) - ((u - v) * (u - v))) * 121665) y3)⟩ := hin 3 rfl (by omega) rfl
          refine if_always rfl ?_
          exact op_fn2 _ _ _ _ _ _ rfl rfl (eval_tmp x1) (eval_tmp x3) (by intro args w; kernel_rfl) (add_el v1 v3 _) hK
        · obtain rfl := Option.some.inj ho
          refine ⟨rfl, fun a w' hS hold hin K hK => ?_⟩
          obtain ⟨y0, x0, (v0 : IsEl (((u + v) * (u + v)) - ((u - v) * (u - v))) y0)⟩ := hin 0 rfl (by omega) rfl
          obtain ⟨y4, x4, (v4 : IsEl (((u + v) * (u + v)) + ((((u + v) * (u + v)) - ((u - v) * (u - v))) * 121665)) y4)⟩ := hin 4 rfl (by omega) rfl
          refine if_always rfl ?_
          exact op_fn2 _ _ _ _ _ _ rfl rfl (eval_tmp x0) (eval_tmp x4) (by intro args w; kernel_rfl) (mul_el v0 v4 _) hK
      · intro i o sz hi ho hA; cases hA
      clear hS
      intro t1 V14 hs hold hout hall hne hS
      have ef := frame_fill 6 (fun i => [98, 99, 100, 101, 102, 103].getD i 0) hs hold (slots_apart (by kernel_rfl)) (slots_lie (by rw [HS]; kernel_rfl))
      replace HS := hs.trans HS
      replace hS := hS.1
      obtain ⟨x103, q103, v103⟩ : ∃ x, t1[103]? = some x ∧ (IsEl ((((u + v) * (u + v)) - ((u - v) * (u - v))) * (((u + v) * (u + v)) + ((((u + v) * (u + v)) - ((u - v) * (u - v))) * 121665)))) x := hout 5 (by omega) rfl
      replace h4 := (hold 4 (slots_not (by kernel_rfl))).trans h4
      replace h5 := (hold 5 (slots_not (by kernel_rfl))).trans h5
      replace h6 := (hold 6 (slots_not (by kernel_rfl))).trans h6
      replace h7 := (hold 7 (slots_not (by kernel_rfl))).trans h7
      replace h8 := (hold 8 (slots_not (by kernel_rfl))).trans h8
      replace h9 := (hold 9 (slots_not (by kernel_rfl))).trans h9
      replace h10 := (hold 10 (slots_not (by kernel_rfl))).trans h10
      replace h15 := (hold 15 (slots_not (by kernel_rfl))).trans h15
      replace h16 := (hold 16 (slots_not (by kernel_rfl))).trans h16
      replace h17 := (hold 17 (slots_not (by kernel_rfl))).trans h17
      replace h18 := (hold 18 (slots_not (by kernel_rfl))).trans h18
      replace h19 := (hold 19 (slots_not (by kernel_rfl))).trans h19
      replace h20 := (hold 20 (slots_not (by kernel_rfl))).trans h20
      replace h21 := (hold 21 (slots_not (by kernel_rfl))).trans h21
      clear hold hout hs hall hne
      simp only [List.drop_succ_cons, List.drop_zero]
      refine st_own 5 tElem rfl (.tmp 8) (.tmp 103) rfl rfl _ _ (eval_tmp h8) (eval_tmp q103) (V' := IsEl ((((u + v) * (u + v)) - ((u - v) * (u - v))) * (((u + v) * (u + v)) + ((((u + v) * (u + v)) - ((u - v) * (u - v))) * 121665)))) v103 (fun x hx => el_row hx) hS 6 rfl fun V14' hS' _ => ?_
      replace hS : Own w [(w.heap.size, 32, (· = .agg (vals Lk))), ((w.heap.size + 1), 32, (· = .agg (vals Lu))), ((w.heap.size + 1 + 1), 32, (fun _ => True)), (gn, 32, (· = .agg (vals (bytesN V)))), (g6, 5, IsEl x1), (g7, 5, IsEl (((u + v) * (u + v)) * ((u - v) * (u - v)))), (g8, 5, IsEl ((((u + v) * (u + v)) - ((u - v) * (u - v))) * (((u + v) * (u + v)) + ((((u + v) * (u + v)) - ((u - v) * (u - v))) * 121665)))), (g9, 5, IsEl ((((xt - zt) * (u + v)) + ((xt + zt) * (u - v))) * (((xt - zt) * (u + v)) + ((xt + zt) * (u - v))))), (g10, 5, IsEl (x1 * ((((xt - zt) * (u + v)) - ((xt + zt) * (u - v))) * (((xt - zt) * (u + v)) - ((xt + zt) * (u - v)))))), (g15, 5, IsEl (u + v)), (g16, 5, IsEl (u - v)), (g17, 5, IsEl ((u + v) * (u + v))), (g18, 5, IsEl ((u - v) * (u - v))), (g19, 5, IsEl ((xt - zt) * (u + v))), (g20, 5, IsEl ((xt + zt) * (u - v))), (g21, 5, IsEl (((u + v) * (u + v)) - ((u - v) * (u - v))))] V14' := hS'
      clear hS'
      refine wpList_nil ?_
      rw [ef, HT]
      clear ef
      simp only [fillA, if_true, List.getD_cons_zero, List.getD_cons_succ, List.setIfInBounds_toArray, List.set_cons_zero, List.set_cons_succ]
      generalize t1.getD 98 undef = z98
      generalize t1.getD 99 undef = z99
      generalize t1.getD 100 undef = z100
      generalize t1.getD 101 undef = z101
      generalize t1.getD 102 undef = z102
      generalize t1.getD 103 undef = z103
      clear HT
      clear h4 h5 h6 h7 h8 h9 h10 h15 h16 h17 h18 h19 h20 h21 q103 v103 hM HS t1 t0 M
      replace hS : Own w [(w.heap.size, 32, (· = .agg (vals Lk))), ((w.heap.size + 1), 32, (· = .agg (vals Lu))), ((w.heap.size + 1 + 1), 32, (fun _ => True)), (gn, 32, (· = .agg (vals (bytesN V)))), (g6, 5, IsEl x1), (g7, 5, IsEl (((u + v) * (u + v)) * ((u - v) * (u - v)))), (g8, 5, IsEl ((((u + v) * (u + v)) - ((u - v) * (u - v))) * (((u + v) * (u + v)) + ((((u + v) * (u + v)) - ((u - v) * (u - v))) * 121665)))), (g9, 5, IsEl ((((xt - zt) * (u + v)) + ((xt + zt) * (u - v))) * (((xt - zt) * (u + v)) + ((xt + zt) * (u - v))))), (g10, 5, IsEl (x1 * ((((xt - zt) * (u + v)) - ((xt + zt) * (u - v))) * (((xt - zt) * (u + v)) - ((xt + zt) * (u - v))))))] V14' := hS.take 9
      have hl2 : lad x1 V j (swp b' (((((u + v) * (u + v)) * ((u - v) * (u - v))), ((((u + v) * (u + v)) - ((u - v) * (u - v))) * (((u + v) * (u + v)) + ((((u + v) * (u + v)) - ((u - v) * (u - v))) * 121665)))), (((((xt - zt) * (u + v)) + ((xt + zt) * (u - v))) * (((xt - zt) * (u + v)) + ((xt + zt) * (u - v)))), (x1 * ((((xt - zt) * (u + v)) - ((xt + zt) * (u - v))) * (((xt - zt) * (u + v)) - ((xt + zt) * (u - v)))))))) = RR := by
        have h1 : lad x1 V j (stp x1 (decide (V / 2 ^ j % 2 = 1)) (swp b ((p2, q2), (p3, q3)))) = RR := HL.out
        rw [← Hhb.out, ← round_stp, ← Hhcc.out, ← Hhu.out, ← Hhv.out, ← Hhx3.out, ← Hhz3.out] at h1
        exact h1
      have Hhl2 := Lib.hid hl2
      clear hl2
      have hS2 := Lib.hid hS
      clear hS
      go_wp2_with fail
      go_roundw
      case rel => exact ⟨j, b', _, _, _, _, by omega, rfl, rfl, Hhb.out, Hhl2.out, hS2.out⟩
      case measure => simp [intOf]
end Go.Proofs.Ytciakfhjjnmeeaa
