/- Texts of this proof's own, one behind the other. No condition. -/
import Derived.Test.YtciakfhjjnmeeaaBa0
import Derived.Test.YtciakfhjjnmeeaaBa1
import Derived.Test.YtciakfhjjnmeeaaBa2
import Derived.Test.YtciakfhjjnmeeaaBa3
import Derived.Test.YtciakfhjjnmeeaaBa4
import Derived.Test.YtciakfhjjnmeeaaBa5
import Derived.Test.YtciakfhjjnmeeaaQRowFieldPlays0
namespace Go.Proofs.Ytciakfhjjnmeeaa
open Go.RowKit Nt

/-- A place, counted round. -/
theorem at_any (k : Int) (n : Nat) (w : World) (hn : 0 < n) (hn2 : n ≤ 9223372036854775807) :
    Calls Try.prog 43 #[.int .i64 k, .int .i64 n] w fun e w' => ∃ j : Nat, j < n ∧ e = .returned (.int .i64 j) ∧ Below w.heap.size w w' := by
  have h1 : -(n : Int) < k.tmod n := Int.lt_tmod_of_pos k (by omega)
  have h2 : k.tmod n < n := Int.tmod_lt_of_pos k (by omega)
  have hz : ¬ ((n : Int) = 0) := by omega
  go_enter Try.func43, Try.ntmps43
  go_wp2
  · exact ⟨rfl, .int .i64 (k.tmod n + n), by kernel_rfl, (k.tmod n + n).toNat, by omega, by rw [Int.toNat_of_nonneg (by omega)], Below.refl _ _⟩
  · exact ⟨rfl, .int .i64 (k.tmod n), by kernel_rfl, (k.tmod n).toNat, by omega, by rw [Int.toNat_of_nonneg (by omega)], Below.refl _ _⟩
end Go.Proofs.Ytciakfhjjnmeeaa

namespace Go.Proofs.Ytciakfhjjnmeeaa
open Go.RowKit Nt

set_option maxHeartbeats 2000000 in
set_option maxRecDepth 100000 in
theorem pick08_any (c : Int) (n m R : F) (w : World) (hc : 0 ≤ c) (hR : (if c % 2 = 1 then n else m) = R) : Calls Try.prog 82 #[.int .u64 c, .agg (vals (bytesN n.val)), .agg (vals (bytesN m.val))] w (Gives (· = .agg (vals (bytesN R.val))) w) := by
  have HN := Lib.hid (bytesN_len n.val)
  have HM := Lib.hid (bytesN_len m.val)
  have hO : Own w [(w.heap.size, 32, (· = .agg (vals (bytesN n.val)))), (w.heap.size + 1, 32, (· = .agg (vals (bytesN m.val)))), (w.heap.size + 2, 32, (fun _ => True))] (((w.alloc (.cells (vals (bytesN n.val)) 29)).alloc (.cells (vals (bytesN m.val)) 29)).alloc (.cells (vals z32) 29)) := by
    have a0 : Own w [] (((w.alloc (.cells (vals (bytesN n.val)) 29)).alloc (.cells (vals (bytesN m.val)) 29)).alloc (.cells (vals z32) 29)) := Own.of_below (by go_grown)
    have a1 := a0.add (g := w.heap.size) (n := 32) (V := (· = .agg (vals (bytesN n.val)))) (Nat.le_refl _) (fun r hr => by cases hr) ⟨_, _, new3_0 .., by rw [vals_size, HN.out], rfl⟩
    have a2 := a1.add (g := w.heap.size + 1) (n := 32) (V := (· = .agg (vals (bytesN m.val)))) (by omega) (by simp) ⟨_, _, new3_1 .., by rw [vals_size, HM.out], rfl⟩
    exact a2.add (g := w.heap.size + 2) (n := 32) (V := fun _ => True) (by omega) (by simp) ⟨_, _, new3_2 .., rfl, trivial⟩
  have hS := hO
  clear hO
  have ht : c.tmod 2 = c % 2 := Int.tmod_eq_emod_of_nonneg hc
  by_cases h1 : c % 2 = 1
  · rw [if_pos h1] at hR
    subst hR
    have h3 : c.tmod 2 = 1 := by omega
    clear ht h1
    go_enter Try.func82, Try.ntmps82
    go_wp2_with ((with_reducible refine guard_list ?_); first | (refine held_load 26 _ rfl ?_) | (refine held_load 22 _ rfl ?_) | (refine held_load 68 _ rfl ?_) | (refine held_load 29 _ rfl ?_))
    change Held (wpList _ _ _ _ _ (((w.alloc (.cells (vals (bytesN n.val)) 29)).alloc (.cells (vals (bytesN m.val)) 29)).alloc (.cells (vals z32) 29)))
    generalize ((w.alloc (.cells (vals (bytesN n.val)) 29)).alloc (.cells (vals (bytesN m.val)) 29)).alloc (.cells (vals z32) 29) = W0 at hS ⊢
    obtain ⟨M, hM⟩ : ∃ M, M = W0.heap.size := ⟨_, rfl⟩
    refine hide_held fun t0 HT => ?_
    have HS : t0.size = 12 := by rw [HT]; rfl
    have h4 : t0[4]? = some (.pointer (some ⟨w.heap.size, 0, none⟩)) := by rw [HT]; rfl
    have h5 : t0[5]? = some (.pointer (some ⟨(w.heap.size + 1), 0, none⟩)) := by rw [HT]; rfl
    have h6 : t0[6]? = some (.pointer (some ⟨(w.heap.size + 2), 0, none⟩)) := by rw [HT]; rfl
    clear HT
    refine wp_list_most 1 (fun i => [10].getD i 0) (fun _ => none) (fun i => [(· = .agg (vals (bytesN n.val)))].getD i (fun _ => True)) (fun w' => Own w [(w.heap.size, 32, (· = .agg (vals (bytesN n.val)))), ((w.heap.size + 1), 32, (· = .agg (vals (bytesN m.val)))), ((w.heap.size + 2), 32, (fun _ => True))] w' ∧ M ≤ w'.heap.size) M
      (by kernel_rfl) (slots_apart (by kernel_rfl)) (slots_lie (by rw [HS]; kernel_rfl)) ⟨hS, Nat.le_of_eq hM⟩ (fun w' h => h.2) (fun w1 w2 h b => ⟨h.1.keep b, Nat.le_trans h.2 b.size⟩) ?_ ?_ ?_
    · clear hS
      intro i o hi ho hA
      have hc : i = 0 := by omega
      rcases hc with rfl
      · obtain rfl := Option.some.inj ho
        refine ⟨rfl, fun a w' hS hold hin K hK => ?_⟩
        refine if_always rfl ?_
        exact op_ld_own 32 tNum (.tmp 4) rfl rfl _ (eval_tmp ((hold 4 (slots_not (by kernel_rfl))).trans h4)) hS.1 0 rfl hK
    · intro i o sz hi ho hA; cases hA
    clear hS
    intro t1 V1 hs hold hout hall hne hS
    replace HS := hs.trans HS
    replace hS := hS.1
    obtain ⟨x10, q10, v10⟩ : ∃ x, t1[10]? = some x ∧ ((· = .agg (vals (bytesN n.val)))) x := hout 0 (by omega) rfl
    replace h4 := (hold 4 (slots_not (by kernel_rfl))).trans h4
    replace h5 := (hold 5 (slots_not (by kernel_rfl))).trans h5
    replace h6 := (hold 6 (slots_not (by kernel_rfl))).trans h6
    clear hold hout hs hall hne
    simp only [List.drop_succ_cons, List.drop_zero]
    refine st_own 32 tNum rfl (.tmp 6) (.tmp 10) rfl rfl _ _ (eval_tmp h6) (eval_tmp q10) (V' := (· = .agg (vals (bytesN n.val)))) v10 (by_num (bytesN_len _)) hS 2 rfl fun V1' hS' _ => ?_
    replace hS : Own w [(w.heap.size, 32, (· = .agg (vals (bytesN n.val)))), ((w.heap.size + 1), 32, (· = .agg (vals (bytesN m.val)))), ((w.heap.size + 2), 32, (· = .agg (vals (bytesN n.val))))] V1' := hS'
    clear hS'
    refine wpList_nil ?_
    obtain ⟨f, e0, hf⟩ := wash HS
    have f4 := hf 4 _ h4
    have f5 := hf 5 _ h5
    have f6 := hf 6 _ h6
    clear hf
    rw [e0.trans (show _ = #[f 0, f 1, f 2, f 3, f 4, f 5, f 6, f 7, f 8, f 9, f 10, f 11] from by kernel_rfl), f4, f5, f6]
    clear f4 f5 f6
    clear e0
    try dsimp only
    clear h4 h5 h6 q10 v10 hM HS t1 t0 M
    obtain ⟨cs, ct, c1, c2, c3⟩ := hS.get (i := 2) rfl
    have hbel := hS.1
    have C3 := Lib.hid c3
    clear hS c3
    go_wp2_with fail
    refine ret_row rfl _ _ _ rfl c1 32 tNum c2 rfl ?_
    exact ⟨_, rfl, C3.out, hbel⟩
  · rw [if_neg h1] at hR
    subst hR
    have h3 : c.tmod 2 = 0 := by omega
    clear ht h1
    go_enter Try.func82, Try.ntmps82
    go_wp2_with ((with_reducible refine guard_list ?_); first | (refine held_load 26 _ rfl ?_) | (refine held_load 22 _ rfl ?_) | (refine held_load 68 _ rfl ?_) | (refine held_load 29 _ rfl ?_))
    change Held (wpList _ _ _ _ _ (((w.alloc (.cells (vals (bytesN n.val)) 29)).alloc (.cells (vals (bytesN m.val)) 29)).alloc (.cells (vals z32) 29)))
    generalize ((w.alloc (.cells (vals (bytesN n.val)) 29)).alloc (.cells (vals (bytesN m.val)) 29)).alloc (.cells (vals z32) 29) = W0 at hS ⊢
    obtain ⟨M, hM⟩ : ∃ M, M = W0.heap.size := ⟨_, rfl⟩
    refine hide_held fun t0 HT => ?_
    have HS : t0.size = 12 := by rw [HT]; rfl
    have h4 : t0[4]? = some (.pointer (some ⟨w.heap.size, 0, none⟩)) := by rw [HT]; rfl
    have h5 : t0[5]? = some (.pointer (some ⟨(w.heap.size + 1), 0, none⟩)) := by rw [HT]; rfl
    have h6 : t0[6]? = some (.pointer (some ⟨(w.heap.size + 2), 0, none⟩)) := by rw [HT]; rfl
    clear HT
    refine wp_list_most 1 (fun i => [11].getD i 0) (fun _ => none) (fun i => [(· = .agg (vals (bytesN m.val)))].getD i (fun _ => True)) (fun w' => Own w [(w.heap.size, 32, (· = .agg (vals (bytesN n.val)))), ((w.heap.size + 1), 32, (· = .agg (vals (bytesN m.val)))), ((w.heap.size + 2), 32, (fun _ => True))] w' ∧ M ≤ w'.heap.size) M
      (by kernel_rfl) (slots_apart (by kernel_rfl)) (slots_lie (by rw [HS]; kernel_rfl)) ⟨hS, Nat.le_of_eq hM⟩ (fun w' h => h.2) (fun w1 w2 h b => ⟨h.1.keep b, Nat.le_trans h.2 b.size⟩) ?_ ?_ ?_
    · clear hS
      intro i o hi ho hA
      have hc : i = 0 := by omega
      rcases hc with rfl
      · obtain rfl := Option.some.inj ho
        refine ⟨rfl, fun a w' hS hold hin K hK => ?_⟩
        refine if_always rfl ?_
        exact op_ld_own 32 tNum (.tmp 5) rfl rfl _ (eval_tmp ((hold 5 (slots_not (by kernel_rfl))).trans h5)) hS.1 1 rfl hK
    · intro i o sz hi ho hA; cases hA
    clear hS
    intro t1 V1 hs hold hout hall hne hS
    replace HS := hs.trans HS
    replace hS := hS.1
    obtain ⟨x11, q11, v11⟩ : ∃ x, t1[11]? = some x ∧ ((· = .agg (vals (bytesN m.val)))) x := hout 0 (by omega) rfl
    replace h4 := (hold 4 (slots_not (by kernel_rfl))).trans h4
    replace h5 := (hold 5 (slots_not (by kernel_rfl))).trans h5
    replace h6 := (hold 6 (slots_not (by kernel_rfl))).trans h6
    clear hold hout hs hall hne
    simp only [List.drop_succ_cons, List.drop_zero]
    refine st_own 32 tNum rfl (.tmp 6) (.tmp 11) rfl rfl _ _ (eval_tmp h6) (eval_tmp q11) (V' := (· = .agg (vals (bytesN m.val)))) v11 (by_num (bytesN_len _)) hS 2 rfl fun V1' hS' _ => ?_
    replace hS : Own w [(w.heap.size, 32, (· = .agg (vals (bytesN n.val)))), ((w.heap.size + 1), 32, (· = .agg (vals (bytesN m.val)))), ((w.heap.size + 2), 32, (· = .agg (vals (bytesN m.val))))] V1' := hS'
    clear hS'
    refine wpList_nil ?_
    obtain ⟨f, e0, hf⟩ := wash HS
    have f4 := hf 4 _ h4
    have f5 := hf 5 _ h5
    have f6 := hf 6 _ h6
    clear hf
    rw [e0.trans (show _ = #[f 0, f 1, f 2, f 3, f 4, f 5, f 6, f 7, f 8, f 9, f 10, f 11] from by kernel_rfl), f4, f5, f6]
    clear f4 f5 f6
    clear e0
    try dsimp only
    clear h4 h5 h6 q11 v11 hM HS t1 t0 M
    obtain ⟨cs, ct, c1, c2, c3⟩ := hS.get (i := 2) rfl
    have hbel := hS.1
    have C3 := Lib.hid c3
    clear hS c3
    go_wp2_with fail
    refine ret_row rfl _ _ _ rfl c1 32 tNum c2 rfl ?_
    exact ⟨_, rfl, C3.out, hbel⟩
end Go.Proofs.Ytciakfhjjnmeeaa

namespace Go.Proofs.Ytciakfhjjnmeeaa
open Go.RowKit Nt

theorem op_ld_nm {o : Oper} {a : Act} {w : World} {Q : Exit → Act → World → Prop} {l : List Int} {d : Nat} {K : Act → World → Prop} (x : Operand) (ho : o.op = .load 29 x) (hd : o.dst = some d)
    (g : Nat) (hx : a.eval x = .pointer (some ⟨g, 0, none⟩)) (h : BytesAt l g w) (hl : l.length = 32) (hK : ∀ x w', x = .agg (vals l) → Below w.heap.size w w' → K (a.put (some d) x) w') : o.wp Try.prog a w K Q := by
  obtain ⟨t, h1⟩ := h
  exact op_ld (V := (· = .agg (vals l))) _ x ho hd g hx (vals l) t h1 32 tNum (by rw [vals_size, hl]) rfl hK
theorem st_nm {ops : Array Oper} {rest : List Oper} {o : Oper} {a : Act} {w : World} {Q : Exit → Act → World → Prop} {l : List Int} (hgd : o.guard = none) (x y : Operand) (ho : o.op = .store 29 x y) (hd : o.dst = none)
    (g : Nat) (v : Value) (hx : a.eval x = .pointer (some ⟨g, 0, none⟩)) (hy : a.eval y = v) (hv : v = .agg (vals l)) (hl : l.length = 32) (hr : RowAt 32 g w)
    (h : ∀ w', BytesAt l g w' → Put g w w' → wpList Try.prog ops Q rest a w') : wpList Try.prog ops Q (o :: rest) a w := by
  subst hv
  obtain ⟨cs, t, h1, h2⟩ := hr
  refine st_row hgd _ x y ho g _ hx hy t cs h1 32 tNum (by rw [vals_size, hl]) h2 (vals_one _) ?_
  rw [hd]
  exact h _ ⟨t, row_put h1⟩ ⟨fun k hk => setRow_other w g k _ hk, below_setRow (Below.refl _ _) (Nat.le_refl _) _⟩

theorem num_gives {n : F} {V : Nat} {f : FuncId} {args : Array Value} {w : World} (h : Calls Try.prog f args w (NumOut n w)) (hV : n.val = V) : Calls Try.prog f args w (Gives (· = .agg (vals (bytesN V))) w) :=
  h.mono fun _ _ ⟨e1, e2⟩ => ⟨_, e1, (by subst hV; rfl), e2⟩
theorem of08_ev (l : List Int) (hl : l.length = 32) (hb : Byt l) {n : F} (h : numF l = n) {V : Nat} (hV : n.val = V) (w : World) : Calls Try.prog 21 #[.agg (vals l)] w (Gives (· = .agg (vals (bytesN V))) w) := by
  subst h; exact num_gives (of08_any l w hl hb) hV
theorem power08_ev {n m : F} {N V R : Nat} (hN : n.val = N) (hV : V < 2 ^ 256) (hm : m = n ^ V) (hR : m.val = R) (w : World) : Calls Try.prog 35 #[.agg (vals (bytesN N)), .agg (vals (bytesN V))] w (Gives (· = .agg (vals (bytesN R))) w) := by
  subst hN; subst hm; exact num_gives (power08_any n V w hV) hR
theorem mul08_ev {n m k : F} {N M R : Nat} (hN : n.val = N) (hM : m.val = M) (hk : k = n * m) (hR : k.val = R) (w : World) : Calls Try.prog 76 #[.agg (vals (bytesN N)), .agg (vals (bytesN M))] w (Gives (· = .agg (vals (bytesN R))) w) := by
  subst hN; subst hM; subst hk; exact num_gives (mul08_any n m w) hR
theorem prime08_ev (k : Int) (h0 : 0 ≤ k) (h1 : k ≤ 237) (V : Nat) (hV : pb k = bytesN V) (w : World) : Calls Try.prog 77 #[.int .u8 k] w (Gives (· = .agg (vals (bytesN V))) w) :=
  (prime08_any k w h0 h1).mono fun _ _ ⟨e1, e2⟩ => ⟨_, e1, by rw [hV], e2⟩
theorem pb2_bytes : pb 2 = bytesN (P - 2) := bytes_of_num _ (pb_len _) (pb_byt _ (by omega) (by omega)) _ (by rw [pb_num]; decide)

set_option maxHeartbeats 1000000 in
set_option maxRecDepth 100000 in
theorem invert08_ev {n m : F} {N R : Nat} (hN : n.val = N) (hm : m = inv n) (hR : m.val = R) (w : World) : Calls Try.prog 37 #[.agg (vals (bytesN N))] w (Gives (· = .agg (vals (bytesN R))) w) := by
  obtain ⟨V, hV⟩ : ∃ V, V = P - 2 := ⟨_, rfl⟩
  have hp : pb 2 = bytesN V := by rw [hV]; exact pb2_bytes
  have hm2 : m = n ^ V := by rw [hm, hV]; rfl
  have hV2 : V < 2 ^ 256 := by rw [hV]; decide
  have H1 := Lib.hid hp
  have H2 := Lib.hid hm2
  have H3 := Lib.hid hV2
  have H4 := Lib.hid hN
  have H5 := Lib.hid hR
  clear hV hp hm hm2 hV2 hN hR
  have R0 : BytesAt (bytesN N) w.heap.size ((w.alloc (.cells (vals (bytesN N)) 29)).alloc (.cells (vals z32) 29)) := ⟨_, new2_0 ..⟩
  have R1 : RowAt 32 (w.heap.size + 1) ((w.alloc (.cells (vals (bytesN N)) 29)).alloc (.cells (vals z32) 29)) := ⟨_, _, new2_1 .., rfl⟩
  have B0 : Below w.heap.size w ((w.alloc (.cells (vals (bytesN N)) 29)).alloc (.cells (vals z32) 29)) := by go_grown
  go_enter Try.func37, Try.ntmps37
  go_wp2_with fail
  change Code.wp _ _ _ _ ((w.alloc (.cells (vals (bytesN N)) 29)).alloc (.cells (vals z32) 29))
  generalize (w.alloc (.cells (vals (bytesN N)) 29)).alloc (.cells (vals z32) 29) = W at R0 R1 B0 ⊢
  refine hide_frame fun t0 HT => ?_
  have HS : t0.size = 6 := by rw [HT]; rfl
  have h1 : t0[1]? = some (.pointer (some ⟨w.heap.size, 0, none⟩)) := by rw [HT]; rfl
  have h2 : t0[2]? = some (.pointer (some ⟨w.heap.size + 1, 0, none⟩)) := by rw [HT]; rfl
  clear HT
  refine wp_region_most 3 (fun i => [3, 4, 5].getD i 0) (fun _ => none) (fun i => [(· = .agg (vals (bytesN N))), (· = .agg (vals (bytesN V))), (· = .agg (vals (bytesN R)))].getD i (fun _ => True)) (fun w' => BytesAt (bytesN N) w.heap.size w' ∧ RowAt 32 (w.heap.size + 1) w' ∧ Below w.heap.size w w') 0
    (by kernel_rfl) (by kernel_rfl) (slots_apart (by kernel_rfl)) (slots_lie (by rw [HS]; kernel_rfl)) ⟨R0, R1, B0.drew⟩ (fun _ _ => Nat.zero_le _) (fun w1 w2 h b => ⟨h.1.keep b, h.2.1.keep b, below_call b h.2.2⟩) ?_ ?_ ?_
  · intro i o hi ho hA
    have hc : i = 0 ∨ i = 1 ∨ i = 2 := by omega
    rcases hc with rfl | rfl | rfl
    · obtain rfl := Option.some.inj ho
      refine ⟨rfl, fun a w' hS hold hin K hK => ?_⟩
      refine if_always rfl ?_
      exact op_ld_nm (.tmp 1) rfl rfl _ (eval_tmp ((hold 1 (slots_not (by kernel_rfl))).trans h1)) hS.1 (bytesN_len _) hK
    · obtain rfl := Option.some.inj ho
      refine ⟨rfl, fun a w' hS hold hin K hK => ?_⟩
      refine if_always rfl ?_
      exact op_fn1 _ _ _ _ rfl rfl rfl (by intro args w; kernel_rfl) (prime08_ev 2 (by omega) (by omega) V H1.out _) hK
    · obtain rfl := Option.some.inj ho
      refine ⟨rfl, fun a w' hS hold hin K hK => ?_⟩
      obtain ⟨y0, x0, rfl⟩ := hin 0 rfl (by omega) rfl
      obtain ⟨y1, x1, rfl⟩ := hin 1 rfl (by omega) rfl
      refine if_always rfl ?_
      exact op_fn2 _ _ _ _ _ _ rfl rfl (eval_tmp x0) (eval_tmp x1) (by intro args w; kernel_rfl) (power08_ev H4.out H3.out H2.out H5.out _) hK
  · intro i o sz hi ho hA; cases hA
  · intro t1 w2 hs hold hout _ _ hS
    obtain ⟨_, h5, rfl⟩ : ∃ x', t1[5]? = some x' ∧ x' = (.agg (vals (bytesN R)) : Value) := hout 2 (by omega) rfl
    replace h2 := (hold 2 (slots_not (by kernel_rfl))).trans h2
    simp only [List.drop_succ_cons, List.drop_zero]
    refine st_nm rfl (.tmp 2) (.tmp 5) rfl rfl _ _ (eval_tmp h2) (eval_tmp h5) rfl (bytesN_len _) hS.2.1 fun w3 e3 p3 => ?_
    have B3 := hS.2.2.trans (p3.2.mono (by omega))
    obtain ⟨t3, e3⟩ := e3
    clear hold hout hS p3
    refine wpList_nil ?_
    go_wp2_with fail
    refine ret_row rfl _ _ _ (eval_tmp (a := ⟨t1, _⟩) h2) e3 32 tNum (by rw [vals_size, bytesN_len]) rfl ?_
    exact ⟨_, rfl, rfl, B3⟩
end Go.Proofs.Ytciakfhjjnmeeaa

namespace Go.Proofs.Ytciakfhjjnmeeaa
open Go.RowKit Nt

theorem tStep : RowT Try.prog 63 4 := ⟨_, Try.underlying63, rfl, by kernel_rfl⟩
theorem u32_wrap (v : Int) : IntKind.u32.wrap v = v % 4294967296 := by simp [IntKind.wrap, IntKind.signed, IntKind.bits]
theorem tU64 : CellT Try.prog 23 := ⟨_, Try.underlying23, rfl⟩
theorem tInt : CellT Try.prog 3 := ⟨_, Try.underlying3, rfl⟩
theorem made_start (D X Y N : Int) {x y : Value} (n m : F) (w : World) (hx : IsEl n x) (hy : IsEl m y) : ∃ cx cy, x = .agg cx ∧ y = .agg cy ∧
    Own w [(w.heap.size, 4, (· = .agg #[.int .i64 D, .int .i64 X, .int .i64 Y, .int .u64 N])), (w.heap.size + 1, 5, IsEl n), (w.heap.size + 2, 5, IsEl m)] (((w.alloc (.cells #[.int .i64 D, .int .i64 X, .int .i64 Y, .int .u64 N] 63)).alloc (.cells cx 26)).alloc (.cells cy 26)) := by
  obtain ⟨cx, e1, c1, _⟩ := el_row hx
  obtain ⟨cy, e2, c2, _⟩ := el_row hy
  refine ⟨cx, cy, e1, e2, ?_⟩
  subst e1; subst e2
  have a0 : Own w [] (((w.alloc (.cells #[.int .i64 D, .int .i64 X, .int .i64 Y, .int .u64 N] 63)).alloc (.cells cx 26)).alloc (.cells cy 26)) := Own.of_below (by go_grown)
  have a1 := a0.add (g := w.heap.size) (n := 4) (V := (· = .agg #[.int .i64 D, .int .i64 X, .int .i64 Y, .int .u64 N])) (Nat.le_refl _) (fun r hr => by cases hr) ⟨_, _, new3_0 .., rfl, rfl⟩
  have a2 := a1.add (g := w.heap.size + 1) (n := 5) (V := IsEl n) (by omega) (by simp) ⟨_, _, new3_1 .., c1, hx⟩
  exact a2.add (g := w.heap.size + 2) (n := 5) (V := IsEl m) (by omega) (by simp) ⟨_, _, new3_2 .., c2, hy⟩
set_option maxHeartbeats 2000000 in
set_option maxRecDepth 100000 in
theorem made_1 (X Y N : Int) (n m : F) {x y : Value} (w : World) (_ : 0 ≤ N ∧ N < 18446744073709551616) (hx : IsEl n x) (hy : IsEl m y) : Calls Try.prog 44 #[.agg #[.int .i64 1, .int .i64 X, .int .i64 Y, .int .u64 N], x, y] w (Fresh 5 IsEl [n + m] w) := by
  obtain ⟨cx, cy, rfl, rfl, hS⟩ := made_start 1 X Y N n m w hx hy
  clear hx hy
  go_enter Try.func44, Try.ntmps44
  go_wp2_with ((with_reducible refine guard_list ?_); first | (refine held_load 26 _ rfl ?_) | (refine held_load 22 _ rfl ?_) | (refine held_load 68 _ rfl ?_))
  change Held (wpList _ _ _ _ _ (((w.alloc (.cells #[.int .i64 1, .int .i64 X, .int .i64 Y, .int .u64 N] 63)).alloc (.cells cx 26)).alloc (.cells cy 26)))
  generalize ((w.alloc (.cells #[.int .i64 1, .int .i64 X, .int .i64 Y, .int .u64 N] 63)).alloc (.cells cx 26)).alloc (.cells cy 26) = W0 at hS ⊢
  obtain ⟨M, hM⟩ : ∃ M, M = W0.heap.size := ⟨_, rfl⟩
  refine hide_held fun t0 HT => ?_
  have HS : t0.size = 73 := by rw [HT]; rfl
  have h3 : t0[3]? = some (.pointer (some ⟨w.heap.size, 0, none⟩)) := by rw [HT]; rfl
  have h4 : t0[4]? = some (.pointer (some ⟨(w.heap.size + 1), 0, none⟩)) := by rw [HT]; rfl
  have h5 : t0[5]? = some (.pointer (some ⟨(w.heap.size + 2), 0, none⟩)) := by rw [HT]; rfl
  clear HT
  refine wp_list_most 3 (fun i => [13, 14, 15].getD i 0) (fun _ => none) (fun i => [IsEl n, IsEl m, IsEl (n + m)].getD i (fun _ => True)) (fun w' => Own w [(w.heap.size, 4, (· = .agg #[.int .i64 1, .int .i64 X, .int .i64 Y, .int .u64 N])), ((w.heap.size + 1), 5, IsEl n), ((w.heap.size + 2), 5, IsEl m)] w' ∧ M ≤ w'.heap.size) M
    (by kernel_rfl) (slots_apart (by kernel_rfl)) (slots_lie (by rw [HS]; kernel_rfl)) ⟨hS, Nat.le_of_eq hM⟩ (fun w' h => h.2) (fun w1 w2 h b => ⟨h.1.keep b, Nat.le_trans h.2 b.size⟩) ?_ ?_ ?_
  · clear hS
    intro i o hi ho hA
    have hc : i = 0 ∨ i = 1 ∨ i = 2 := by omega
    rcases hc with rfl | rfl | rfl
    · obtain rfl := Option.some.inj ho
      refine ⟨rfl, fun a w' hS hold hin K hK => ?_⟩
      refine if_always rfl ?_
      exact op_ld_own 5 tElem (.tmp 4) rfl rfl _ (eval_tmp ((hold 4 (slots_not (by kernel_rfl))).trans h4)) hS.1 1 rfl hK
    · obtain rfl := Option.some.inj ho
      refine ⟨rfl, fun a w' hS hold hin K hK => ?_⟩
      refine if_always rfl ?_
      exact op_ld_own 5 tElem (.tmp 5) rfl rfl _ (eval_tmp ((hold 5 (slots_not (by kernel_rfl))).trans h5)) hS.1 2 rfl hK
    · obtain rfl := Option.some.inj ho
      refine ⟨rfl, fun a w' hS hold hin K hK => ?_⟩
      obtain ⟨y0, x0, (v0 : IsEl n y0)⟩ := hin 0 rfl (by omega) rfl
      obtain ⟨y1, x1, (v1 : IsEl m y1)⟩ := hin 1 rfl (by omega) rfl
      refine if_always rfl ?_
      exact op_fn2 _ _ _ _ _ _ rfl rfl (eval_tmp x0) (eval_tmp x1) (by intro args w; kernel_rfl) (add_el v0 v1 _) hK
  · intro i o sz hi ho hA; cases hA
  clear hS
  intro t1 V1 hs hold hout hall hne hS
  replace HS := hs.trans HS
  replace hS := hS.1
  obtain ⟨x15, q15, v15⟩ : ∃ x, t1[15]? = some x ∧ (IsEl (n + m)) x := hout 2 (by omega) rfl
  replace h3 := (hold 3 (slots_not (by kernel_rfl))).trans h3
  replace h4 := (hold 4 (slots_not (by kernel_rfl))).trans h4
  replace h5 := (hold 5 (slots_not (by kernel_rfl))).trans h5
  clear hold hout hs hall hne
  simp only [List.drop_succ_cons, List.drop_zero]
  refine tl_lit1 5 _ 26 (.tmp 15) rfl rfl 16 rfl (by rw [HS]; decide) (by decide) (by kernel_rfl) (by kernel_rfl) (by kernel_rfl) _ (eval_tmp q15) (V := IsEl (n + m)) v15 (fun x hx => el_row hx) hS fun g1 t1 V1' hS' hz hq he => ?_
  replace h3 := (he 3 (by decide)).trans h3
  replace h4 := (he 4 (by decide)).trans h4
  replace h5 := (he 5 (by decide)).trans h5
  replace HS := hz.trans HS
  clear hz he q15 v15
  have h16 := hq
  clear hq
  replace hS : Own w [(w.heap.size, 4, (· = .agg #[.int .i64 1, .int .i64 X, .int .i64 Y, .int .u64 N])), ((w.heap.size + 1), 5, IsEl n), ((w.heap.size + 2), 5, IsEl m), (g1, 5, IsEl (n + m))] V1' := hS'
  clear hS'
  refine tl_assign rfl (.tmp 16) rfl 6 rfl (by rw [HS]; decide) _ (eval_tmp h16) fun t1 hz hq he => ?_
  replace h3 := (he 3 (by decide)).trans h3
  replace h4 := (he 4 (by decide)).trans h4
  replace h5 := (he 5 (by decide)).trans h5
  replace h16 := (he 16 (by decide)).trans h16
  replace HS := hz.trans HS
  clear hz he
  have h6 := hq
  clear hq
  refine wpList_nil ?_
  obtain ⟨f, e0, hf⟩ := wash HS
  have f3 := hf 3 _ h3
  have f4 := hf 4 _ h4
  have f5 := hf 5 _ h5
  have f16 := hf 16 _ h16
  have f6 := hf 6 _ h6
  clear hf
  rw [e0.trans (show _ = #[f 0, f 1, f 2, f 3, f 4, f 5, f 6, f 7, f 8, f 9, f 10, f 11, f 12, f 13, f 14, f 15, f 16, f 17, f 18, f 19, f 20, f 21, f 22, f 23, f 24, f 25, f 26, f 27, f 28, f 29, f 30, f 31, f 32, f 33, f 34, f 35, f 36, f 37, f 38, f 39, f 40, f 41, f 42, f 43, f 44, f 45, f 46, f 47, f 48, f 49, f 50, f 51, f 52, f 53, f 54, f 55, f 56, f 57, f 58, f 59, f 60, f 61, f 62, f 63, f 64, f 65, f 66, f 67, f 68, f 69, f 70, f 71, f 72] from by kernel_rfl), f3, f4, f5, f16, f6]
  clear f3 f4 f5 f16 f6
  clear e0
  try dsimp only
  clear h3 h4 h5 h16 h6 hM HS t1 t0 M
  go_wp2_with fail
  exact ⟨rfl, .slice (some ⟨g1, 0, none⟩) 1 1, by kernel_rfl, Fresh.one 3 hS rfl fun _ h => h⟩
set_option maxHeartbeats 2000000 in
set_option maxRecDepth 100000 in
theorem made_2 (X Y N : Int) (n m : F) {x y : Value} (w : World) (_ : 0 ≤ N ∧ N < 18446744073709551616) (hx : IsEl n x) (hy : IsEl m y) : Calls Try.prog 44 #[.agg #[.int .i64 2, .int .i64 X, .int .i64 Y, .int .u64 N], x, y] w (Fresh 5 IsEl [n - m] w) := by
  obtain ⟨cx, cy, rfl, rfl, hS⟩ := made_start 2 X Y N n m w hx hy
  clear hx hy
  go_enter Try.func44, Try.ntmps44
  go_wp2_with ((with_reducible refine guard_list ?_); first | (refine held_load 26 _ rfl ?_) | (refine held_load 22 _ rfl ?_) | (refine held_load 68 _ rfl ?_))
  change Held (wpList _ _ _ _ _ (((w.alloc (.cells #[.int .i64 2, .int .i64 X, .int .i64 Y, .int .u64 N] 63)).alloc (.cells cx 26)).alloc (.cells cy 26)))
  generalize ((w.alloc (.cells #[.int .i64 2, .int .i64 X, .int .i64 Y, .int .u64 N] 63)).alloc (.cells cx 26)).alloc (.cells cy 26) = W0 at hS ⊢
  obtain ⟨M, hM⟩ : ∃ M, M = W0.heap.size := ⟨_, rfl⟩
  refine hide_held fun t0 HT => ?_
  have HS : t0.size = 73 := by rw [HT]; rfl
  have h3 : t0[3]? = some (.pointer (some ⟨w.heap.size, 0, none⟩)) := by rw [HT]; rfl
  have h4 : t0[4]? = some (.pointer (some ⟨(w.heap.size + 1), 0, none⟩)) := by rw [HT]; rfl
  have h5 : t0[5]? = some (.pointer (some ⟨(w.heap.size + 2), 0, none⟩)) := by rw [HT]; rfl
  clear HT
  refine wp_list_most 3 (fun i => [19, 20, 21].getD i 0) (fun _ => none) (fun i => [IsEl n, IsEl m, IsEl (n - m)].getD i (fun _ => True)) (fun w' => Own w [(w.heap.size, 4, (· = .agg #[.int .i64 2, .int .i64 X, .int .i64 Y, .int .u64 N])), ((w.heap.size + 1), 5, IsEl n), ((w.heap.size + 2), 5, IsEl m)] w' ∧ M ≤ w'.heap.size) M
    (by kernel_rfl) (slots_apart (by kernel_rfl)) (slots_lie (by rw [HS]; kernel_rfl)) ⟨hS, Nat.le_of_eq hM⟩ (fun w' h => h.2) (fun w1 w2 h b => ⟨h.1.keep b, Nat.le_trans h.2 b.size⟩) ?_ ?_ ?_
  · clear hS
    intro i o hi ho hA
    have hc : i = 0 ∨ i = 1 ∨ i = 2 := by omega
    rcases hc with rfl | rfl | rfl
    · obtain rfl := Option.some.inj ho
      refine ⟨rfl, fun a w' hS hold hin K hK => ?_⟩
      refine if_always rfl ?_
      exact op_ld_own 5 tElem (.tmp 4) rfl rfl _ (eval_tmp ((hold 4 (slots_not (by kernel_rfl))).trans h4)) hS.1 1 rfl hK
    · obtain rfl := Option.some.inj ho
      refine ⟨rfl, fun a w' hS hold hin K hK => ?_⟩
      refine if_always rfl ?_
      exact op_ld_own 5 tElem (.tmp 5) rfl rfl _ (eval_tmp ((hold 5 (slots_not (by kernel_rfl))).trans h5)) hS.1 2 rfl hK
    · obtain rfl := Option.some.inj ho
      refine ⟨rfl, fun a w' hS hold hin K hK => ?_⟩
      obtain ⟨y0, x0, (v0 : IsEl n y0)⟩ := hin 0 rfl (by omega) rfl
      obtain ⟨y1, x1, (v1 : IsEl m y1)⟩ := hin 1 rfl (by omega) rfl
      refine if_always rfl ?_
      exact op_fn2 _ _ _ _ _ _ rfl rfl (eval_tmp x0) (eval_tmp x1) (by intro args w; kernel_rfl) (sub_el v0 v1 _) hK
  · intro i o sz hi ho hA; cases hA
  clear hS
  intro t1 V1 hs hold hout hall hne hS
  replace HS := hs.trans HS
  replace hS := hS.1
  obtain ⟨x21, q21, v21⟩ : ∃ x, t1[21]? = some x ∧ (IsEl (n - m)) x := hout 2 (by omega) rfl
  replace h3 := (hold 3 (slots_not (by kernel_rfl))).trans h3
  replace h4 := (hold 4 (slots_not (by kernel_rfl))).trans h4
  replace h5 := (hold 5 (slots_not (by kernel_rfl))).trans h5
  clear hold hout hs hall hne
  simp only [List.drop_succ_cons, List.drop_zero]
  refine tl_lit1 5 _ 26 (.tmp 21) rfl rfl 22 rfl (by rw [HS]; decide) (by decide) (by kernel_rfl) (by kernel_rfl) (by kernel_rfl) _ (eval_tmp q21) (V := IsEl (n - m)) v21 (fun x hx => el_row hx) hS fun g2 t1 V1' hS' hz hq he => ?_
  replace h3 := (he 3 (by decide)).trans h3
  replace h4 := (he 4 (by decide)).trans h4
  replace h5 := (he 5 (by decide)).trans h5
  replace HS := hz.trans HS
  clear hz he q21 v21
  have h22 := hq
  clear hq
  replace hS : Own w [(w.heap.size, 4, (· = .agg #[.int .i64 2, .int .i64 X, .int .i64 Y, .int .u64 N])), ((w.heap.size + 1), 5, IsEl n), ((w.heap.size + 2), 5, IsEl m), (g2, 5, IsEl (n - m))] V1' := hS'
  clear hS'
  refine tl_assign rfl (.tmp 22) rfl 6 rfl (by rw [HS]; decide) _ (eval_tmp h22) fun t1 hz hq he => ?_
  replace h3 := (he 3 (by decide)).trans h3
  replace h4 := (he 4 (by decide)).trans h4
  replace h5 := (he 5 (by decide)).trans h5
  replace h22 := (he 22 (by decide)).trans h22
  replace HS := hz.trans HS
  clear hz he
  have h6 := hq
  clear hq
  refine wpList_nil ?_
  obtain ⟨f, e0, hf⟩ := wash HS
  have f3 := hf 3 _ h3
  have f4 := hf 4 _ h4
  have f5 := hf 5 _ h5
  have f22 := hf 22 _ h22
  have f6 := hf 6 _ h6
  clear hf
  rw [e0.trans (show _ = #[f 0, f 1, f 2, f 3, f 4, f 5, f 6, f 7, f 8, f 9, f 10, f 11, f 12, f 13, f 14, f 15, f 16, f 17, f 18, f 19, f 20, f 21, f 22, f 23, f 24, f 25, f 26, f 27, f 28, f 29, f 30, f 31, f 32, f 33, f 34, f 35, f 36, f 37, f 38, f 39, f 40, f 41, f 42, f 43, f 44, f 45, f 46, f 47, f 48, f 49, f 50, f 51, f 52, f 53, f 54, f 55, f 56, f 57, f 58, f 59, f 60, f 61, f 62, f 63, f 64, f 65, f 66, f 67, f 68, f 69, f 70, f 71, f 72] from by kernel_rfl), f3, f4, f5, f22, f6]
  clear f3 f4 f5 f22 f6
  clear e0
  try dsimp only
  clear h3 h4 h5 h22 h6 hM HS t1 t0 M
  go_wp2_with fail
  exact ⟨rfl, .slice (some ⟨g2, 0, none⟩) 1 1, by kernel_rfl, Fresh.one 3 hS rfl fun _ h => h⟩
set_option maxHeartbeats 2000000 in
set_option maxRecDepth 100000 in
theorem made_3 (X Y N : Int) (n m : F) {x y : Value} (w : World) (_ : 0 ≤ N ∧ N < 18446744073709551616) (hx : IsEl n x) (hy : IsEl m y) : Calls Try.prog 44 #[.agg #[.int .i64 3, .int .i64 X, .int .i64 Y, .int .u64 N], x, y] w (Fresh 5 IsEl [0 - n] w) := by
  obtain ⟨cx, cy, rfl, rfl, hS⟩ := made_start 3 X Y N n m w hx hy
  clear hx hy
  go_enter Try.func44, Try.ntmps44
  go_wp2_with ((with_reducible refine guard_list ?_); first | (refine held_load 26 _ rfl ?_) | (refine held_load 22 _ rfl ?_) | (refine held_load 68 _ rfl ?_))
  change Held (wpList _ _ _ _ _ (((w.alloc (.cells #[.int .i64 3, .int .i64 X, .int .i64 Y, .int .u64 N] 63)).alloc (.cells cx 26)).alloc (.cells cy 26)))
  generalize ((w.alloc (.cells #[.int .i64 3, .int .i64 X, .int .i64 Y, .int .u64 N] 63)).alloc (.cells cx 26)).alloc (.cells cy 26) = W0 at hS ⊢
  obtain ⟨M, hM⟩ : ∃ M, M = W0.heap.size := ⟨_, rfl⟩
  refine hide_held fun t0 HT => ?_
  have HS : t0.size = 73 := by rw [HT]; rfl
  have h3 : t0[3]? = some (.pointer (some ⟨w.heap.size, 0, none⟩)) := by rw [HT]; rfl
  have h4 : t0[4]? = some (.pointer (some ⟨(w.heap.size + 1), 0, none⟩)) := by rw [HT]; rfl
  have h5 : t0[5]? = some (.pointer (some ⟨(w.heap.size + 2), 0, none⟩)) := by rw [HT]; rfl
  clear HT
  refine wp_list_most 2 (fun i => [25, 26].getD i 0) (fun _ => none) (fun i => [IsEl n, IsEl (0 - n)].getD i (fun _ => True)) (fun w' => Own w [(w.heap.size, 4, (· = .agg #[.int .i64 3, .int .i64 X, .int .i64 Y, .int .u64 N])), ((w.heap.size + 1), 5, IsEl n), ((w.heap.size + 2), 5, IsEl m)] w' ∧ M ≤ w'.heap.size) M
    (by kernel_rfl) (slots_apart (by kernel_rfl)) (slots_lie (by rw [HS]; kernel_rfl)) ⟨hS, Nat.le_of_eq hM⟩ (fun w' h => h.2) (fun w1 w2 h b => ⟨h.1.keep b, Nat.le_trans h.2 b.size⟩) ?_ ?_ ?_
  · clear hS
    intro i o hi ho hA
    have hc : i = 0 ∨ i = 1 := by omega
    rcases hc with rfl | rfl
    · obtain rfl := Option.some.inj ho
      refine ⟨rfl, fun a w' hS hold hin K hK => ?_⟩
      refine if_always rfl ?_
      exact op_ld_own 5 tElem (.tmp 4) rfl rfl _ (eval_tmp ((hold 4 (slots_not (by kernel_rfl))).trans h4)) hS.1 1 rfl hK
    · obtain rfl := Option.some.inj ho
      refine ⟨rfl, fun a w' hS hold hin K hK => ?_⟩
      obtain ⟨y0, x0, (v0 : IsEl n y0)⟩ := hin 0 rfl (by omega) rfl
      refine if_always rfl ?_
      exact op_fn1 _ _ _ _ rfl rfl (eval_tmp x0) (by intro args w; kernel_rfl) (neg_el v0 _) hK
  · intro i o sz hi ho hA; cases hA
  clear hS
  intro t1 V1 hs hold hout hall hne hS
  replace HS := hs.trans HS
  replace hS := hS.1
  obtain ⟨x26, q26, v26⟩ : ∃ x, t1[26]? = some x ∧ (IsEl (0 - n)) x := hout 1 (by omega) rfl
  replace h3 := (hold 3 (slots_not (by kernel_rfl))).trans h3
  replace h4 := (hold 4 (slots_not (by kernel_rfl))).trans h4
  replace h5 := (hold 5 (slots_not (by kernel_rfl))).trans h5
  clear hold hout hs hall hne
  simp only [List.drop_succ_cons, List.drop_zero]
  refine tl_lit1 5 _ 26 (.tmp 26) rfl rfl 27 rfl (by rw [HS]; decide) (by decide) (by kernel_rfl) (by kernel_rfl) (by kernel_rfl) _ (eval_tmp q26) (V := IsEl (0 - n)) v26 (fun x hx => el_row hx) hS fun g3 t1 V1' hS' hz hq he => ?_
  replace h3 := (he 3 (by decide)).trans h3
  replace h4 := (he 4 (by decide)).trans h4
  replace h5 := (he 5 (by decide)).trans h5
  replace HS := hz.trans HS
  clear hz he q26 v26
  have h27 := hq
  clear hq
  replace hS : Own w [(w.heap.size, 4, (· = .agg #[.int .i64 3, .int .i64 X, .int .i64 Y, .int .u64 N])), ((w.heap.size + 1), 5, IsEl n), ((w.heap.size + 2), 5, IsEl m), (g3, 5, IsEl (0 - n))] V1' := hS'
  clear hS'
  refine tl_assign rfl (.tmp 27) rfl 6 rfl (by rw [HS]; decide) _ (eval_tmp h27) fun t1 hz hq he => ?_
  replace h3 := (he 3 (by decide)).trans h3
  replace h4 := (he 4 (by decide)).trans h4
  replace h5 := (he 5 (by decide)).trans h5
  replace h27 := (he 27 (by decide)).trans h27
  replace HS := hz.trans HS
  clear hz he
  have h6 := hq
  clear hq
  refine wpList_nil ?_
  obtain ⟨f, e0, hf⟩ := wash HS
  have f3 := hf 3 _ h3
  have f4 := hf 4 _ h4
  have f5 := hf 5 _ h5
  have f27 := hf 27 _ h27
  have f6 := hf 6 _ h6
  clear hf
  rw [e0.trans (show _ = #[f 0, f 1, f 2, f 3, f 4, f 5, f 6, f 7, f 8, f 9, f 10, f 11, f 12, f 13, f 14, f 15, f 16, f 17, f 18, f 19, f 20, f 21, f 22, f 23, f 24, f 25, f 26, f 27, f 28, f 29, f 30, f 31, f 32, f 33, f 34, f 35, f 36, f 37, f 38, f 39, f 40, f 41, f 42, f 43, f 44, f 45, f 46, f 47, f 48, f 49, f 50, f 51, f 52, f 53, f 54, f 55, f 56, f 57, f 58, f 59, f 60, f 61, f 62, f 63, f 64, f 65, f 66, f 67, f 68, f 69, f 70, f 71, f 72] from by kernel_rfl), f3, f4, f5, f27, f6]
  clear f3 f4 f5 f27 f6
  clear e0
  try dsimp only
  clear h3 h4 h5 h27 h6 hM HS t1 t0 M
  go_wp2_with fail
  exact ⟨rfl, .slice (some ⟨g3, 0, none⟩) 1 1, by kernel_rfl, Fresh.one 3 hS rfl fun _ h => h⟩
set_option maxHeartbeats 2000000 in
set_option maxRecDepth 100000 in
theorem made_4 (X Y N : Int) (n m : F) {x y : Value} (w : World) (_ : 0 ≤ N ∧ N < 18446744073709551616) (hx : IsEl n x) (hy : IsEl m y) : Calls Try.prog 44 #[.agg #[.int .i64 4, .int .i64 X, .int .i64 Y, .int .u64 N], x, y] w (Fresh 5 IsEl [n * m] w) := by
  obtain ⟨cx, cy, rfl, rfl, hS⟩ := made_start 4 X Y N n m w hx hy
  clear hx hy
  go_enter Try.func44, Try.ntmps44
  go_wp2_with ((with_reducible refine guard_list ?_); first | (refine held_load 26 _ rfl ?_) | (refine held_load 22 _ rfl ?_) | (refine held_load 68 _ rfl ?_))
  change Held (wpList _ _ _ _ _ (((w.alloc (.cells #[.int .i64 4, .int .i64 X, .int .i64 Y, .int .u64 N] 63)).alloc (.cells cx 26)).alloc (.cells cy 26)))
  generalize ((w.alloc (.cells #[.int .i64 4, .int .i64 X, .int .i64 Y, .int .u64 N] 63)).alloc (.cells cx 26)).alloc (.cells cy 26) = W0 at hS ⊢
  obtain ⟨M, hM⟩ : ∃ M, M = W0.heap.size := ⟨_, rfl⟩
  refine hide_held fun t0 HT => ?_
  have HS : t0.size = 73 := by rw [HT]; rfl
  have h3 : t0[3]? = some (.pointer (some ⟨w.heap.size, 0, none⟩)) := by rw [HT]; rfl
  have h4 : t0[4]? = some (.pointer (some ⟨(w.heap.size + 1), 0, none⟩)) := by rw [HT]; rfl
  have h5 : t0[5]? = some (.pointer (some ⟨(w.heap.size + 2), 0, none⟩)) := by rw [HT]; rfl
  clear HT
  refine wp_list_most 3 (fun i => [30, 31, 32].getD i 0) (fun _ => none) (fun i => [IsEl n, IsEl m, IsEl (n * m)].getD i (fun _ => True)) (fun w' => Own w [(w.heap.size, 4, (· = .agg #[.int .i64 4, .int .i64 X, .int .i64 Y, .int .u64 N])), ((w.heap.size + 1), 5, IsEl n), ((w.heap.size + 2), 5, IsEl m)] w' ∧ M ≤ w'.heap.size) M
    (by kernel_rfl) (slots_apart (by kernel_rfl)) (slots_lie (by rw [HS]; kernel_rfl)) ⟨hS, Nat.le_of_eq hM⟩ (fun w' h => h.2) (fun w1 w2 h b => ⟨h.1.keep b, Nat.le_trans h.2 b.size⟩) ?_ ?_ ?_
  · clear hS
    intro i o hi ho hA
    have hc : i = 0 ∨ i = 1 ∨ i = 2 := by omega
    rcases hc with rfl | rfl | rfl
    · obtain rfl := Option.some.inj ho
      refine ⟨rfl, fun a w' hS hold hin K hK => ?_⟩
      refine if_always rfl ?_
      exact op_ld_own 5 tElem (.tmp 4) rfl rfl _ (eval_tmp ((hold 4 (slots_not (by kernel_rfl))).trans h4)) hS.1 1 rfl hK
    · obtain rfl := Option.some.inj ho
      refine ⟨rfl, fun a w' hS hold hin K hK => ?_⟩
      refine if_always rfl ?_
      exact op_ld_own 5 tElem (.tmp 5) rfl rfl _ (eval_tmp ((hold 5 (slots_not (by kernel_rfl))).trans h5)) hS.1 2 rfl hK
    · obtain rfl := Option.some.inj ho
      refine ⟨rfl, fun a w' hS hold hin K hK => ?_⟩
      obtain ⟨y0, x0, (v0 : IsEl n y0)⟩ := hin 0 rfl (by omega) rfl
      obtain ⟨y1, x1, (v1 : IsEl m y1)⟩ := hin 1 rfl (by omega) rfl
      refine if_always rfl ?_
      exact op_fn2 _ _ _ _ _ _ rfl rfl (eval_tmp x0) (eval_tmp x1) (by intro args w; kernel_rfl) (mul_el v0 v1 _) hK
  · intro i o sz hi ho hA; cases hA
  clear hS
  intro t1 V1 hs hold hout hall hne hS
  replace HS := hs.trans HS
  replace hS := hS.1
  obtain ⟨x32, q32, v32⟩ : ∃ x, t1[32]? = some x ∧ (IsEl (n * m)) x := hout 2 (by omega) rfl
  replace h3 := (hold 3 (slots_not (by kernel_rfl))).trans h3
  replace h4 := (hold 4 (slots_not (by kernel_rfl))).trans h4
  replace h5 := (hold 5 (slots_not (by kernel_rfl))).trans h5
  clear hold hout hs hall hne
  simp only [List.drop_succ_cons, List.drop_zero]
  refine tl_lit1 5 _ 26 (.tmp 32) rfl rfl 33 rfl (by rw [HS]; decide) (by decide) (by kernel_rfl) (by kernel_rfl) (by kernel_rfl) _ (eval_tmp q32) (V := IsEl (n * m)) v32 (fun x hx => el_row hx) hS fun g4 t1 V1' hS' hz hq he => ?_
  replace h3 := (he 3 (by decide)).trans h3
  replace h4 := (he 4 (by decide)).trans h4
  replace h5 := (he 5 (by decide)).trans h5
  replace HS := hz.trans HS
  clear hz he q32 v32
  have h33 := hq
  clear hq
  replace hS : Own w [(w.heap.size, 4, (· = .agg #[.int .i64 4, .int .i64 X, .int .i64 Y, .int .u64 N])), ((w.heap.size + 1), 5, IsEl n), ((w.heap.size + 2), 5, IsEl m), (g4, 5, IsEl (n * m))] V1' := hS'
  clear hS'
  refine tl_assign rfl (.tmp 33) rfl 6 rfl (by rw [HS]; decide) _ (eval_tmp h33) fun t1 hz hq he => ?_
  replace h3 := (he 3 (by decide)).trans h3
  replace h4 := (he 4 (by decide)).trans h4
  replace h5 := (he 5 (by decide)).trans h5
  replace h33 := (he 33 (by decide)).trans h33
  replace HS := hz.trans HS
  clear hz he
  have h6 := hq
  clear hq
  refine wpList_nil ?_
  obtain ⟨f, e0, hf⟩ := wash HS
  have f3 := hf 3 _ h3
  have f4 := hf 4 _ h4
  have f5 := hf 5 _ h5
  have f33 := hf 33 _ h33
  have f6 := hf 6 _ h6
  clear hf
  rw [e0.trans (show _ = #[f 0, f 1, f 2, f 3, f 4, f 5, f 6, f 7, f 8, f 9, f 10, f 11, f 12, f 13, f 14, f 15, f 16, f 17, f 18, f 19, f 20, f 21, f 22, f 23, f 24, f 25, f 26, f 27, f 28, f 29, f 30, f 31, f 32, f 33, f 34, f 35, f 36, f 37, f 38, f 39, f 40, f 41, f 42, f 43, f 44, f 45, f 46, f 47, f 48, f 49, f 50, f 51, f 52, f 53, f 54, f 55, f 56, f 57, f 58, f 59, f 60, f 61, f 62, f 63, f 64, f 65, f 66, f 67, f 68, f 69, f 70, f 71, f 72] from by kernel_rfl), f3, f4, f5, f33, f6]
  clear f3 f4 f5 f33 f6
  clear e0
  try dsimp only
  clear h3 h4 h5 h33 h6 hM HS t1 t0 M
  go_wp2_with fail
  exact ⟨rfl, .slice (some ⟨g4, 0, none⟩) 1 1, by kernel_rfl, Fresh.one 3 hS rfl fun _ h => h⟩
set_option maxHeartbeats 2000000 in
set_option maxRecDepth 100000 in
theorem made_5 (X Y N : Int) (n m : F) {x y : Value} (w : World) (_ : 0 ≤ N ∧ N < 18446744073709551616) (hx : IsEl n x) (hy : IsEl m y) : Calls Try.prog 44 #[.agg #[.int .i64 5, .int .i64 X, .int .i64 Y, .int .u64 N], x, y] w (Fresh 5 IsEl [n * n] w) := by
  obtain ⟨cx, cy, rfl, rfl, hS⟩ := made_start 5 X Y N n m w hx hy
  clear hx hy
  go_enter Try.func44, Try.ntmps44
  go_wp2_with ((with_reducible refine guard_list ?_); first | (refine held_load 26 _ rfl ?_) | (refine held_load 22 _ rfl ?_) | (refine held_load 68 _ rfl ?_))
  change Held (wpList _ _ _ _ _ (((w.alloc (.cells #[.int .i64 5, .int .i64 X, .int .i64 Y, .int .u64 N] 63)).alloc (.cells cx 26)).alloc (.cells cy 26)))
  generalize ((w.alloc (.cells #[.int .i64 5, .int .i64 X, .int .i64 Y, .int .u64 N] 63)).alloc (.cells cx 26)).alloc (.cells cy 26) = W0 at hS ⊢
  obtain ⟨M, hM⟩ : ∃ M, M = W0.heap.size := ⟨_, rfl⟩
  refine hide_held fun t0 HT => ?_
  have HS : t0.size = 73 := by rw [HT]; rfl
  have h3 : t0[3]? = some (.pointer (some ⟨w.heap.size, 0, none⟩)) := by rw [HT]; rfl
  have h4 : t0[4]? = some (.pointer (some ⟨(w.heap.size + 1), 0, none⟩)) := by rw [HT]; rfl
  have h5 : t0[5]? = some (.pointer (some ⟨(w.heap.size + 2), 0, none⟩)) := by rw [HT]; rfl
  clear HT
  refine wp_list_most 2 (fun i => [36, 37].getD i 0) (fun _ => none) (fun i => [IsEl n, IsEl (n * n)].getD i (fun _ => True)) (fun w' => Own w [(w.heap.size, 4, (· = .agg #[.int .i64 5, .int .i64 X, .int .i64 Y, .int .u64 N])), ((w.heap.size + 1), 5, IsEl n), ((w.heap.size + 2), 5, IsEl m)] w' ∧ M ≤ w'.heap.size) M
    (by kernel_rfl) (slots_apart (by kernel_rfl)) (slots_lie (by rw [HS]; kernel_rfl)) ⟨hS, Nat.le_of_eq hM⟩ (fun w' h => h.2) (fun w1 w2 h b => ⟨h.1.keep b, Nat.le_trans h.2 b.size⟩) ?_ ?_ ?_
  · clear hS
    intro i o hi ho hA
    have hc : i = 0 ∨ i = 1 := by omega
    rcases hc with rfl | rfl
    · obtain rfl := Option.some.inj ho
      refine ⟨rfl, fun a w' hS hold hin K hK => ?_⟩
      refine if_always rfl ?_
      exact op_ld_own 5 tElem (.tmp 4) rfl rfl _ (eval_tmp ((hold 4 (slots_not (by kernel_rfl))).trans h4)) hS.1 1 rfl hK
    · obtain rfl := Option.some.inj ho
      refine ⟨rfl, fun a w' hS hold hin K hK => ?_⟩
      obtain ⟨y0, x0, (v0 : IsEl n y0)⟩ := hin 0 rfl (by omega) rfl
      refine if_always rfl ?_
      exact op_fn1 _ _ _ _ rfl rfl (eval_tmp x0) (by intro args w; kernel_rfl) (square_el v0 _) hK
  · intro i o sz hi ho hA; cases hA
  clear hS
  intro t1 V1 hs hold hout hall hne hS
  replace HS := hs.trans HS
  replace hS := hS.1
  obtain ⟨x37, q37, v37⟩ : ∃ x, t1[37]? = some x ∧ (IsEl (n * n)) x := hout 1 (by omega) rfl
  replace h3 := (hold 3 (slots_not (by kernel_rfl))).trans h3
  replace h4 := (hold 4 (slots_not (by kernel_rfl))).trans h4
  replace h5 := (hold 5 (slots_not (by kernel_rfl))).trans h5
  clear hold hout hs hall hne
  simp only [List.drop_succ_cons, List.drop_zero]
  refine tl_lit1 5 _ 26 (.tmp 37) rfl rfl 38 rfl (by rw [HS]; decide) (by decide) (by kernel_rfl) (by kernel_rfl) (by kernel_rfl) _ (eval_tmp q37) (V := IsEl (n * n)) v37 (fun x hx => el_row hx) hS fun g5 t1 V1' hS' hz hq he => ?_
  replace h3 := (he 3 (by decide)).trans h3
  replace h4 := (he 4 (by decide)).trans h4
  replace h5 := (he 5 (by decide)).trans h5
  replace HS := hz.trans HS
  clear hz he q37 v37
  have h38 := hq
  clear hq
  replace hS : Own w [(w.heap.size, 4, (· = .agg #[.int .i64 5, .int .i64 X, .int .i64 Y, .int .u64 N])), ((w.heap.size + 1), 5, IsEl n), ((w.heap.size + 2), 5, IsEl m), (g5, 5, IsEl (n * n))] V1' := hS'
  clear hS'
  refine tl_assign rfl (.tmp 38) rfl 6 rfl (by rw [HS]; decide) _ (eval_tmp h38) fun t1 hz hq he => ?_
  replace h3 := (he 3 (by decide)).trans h3
  replace h4 := (he 4 (by decide)).trans h4
  replace h5 := (he 5 (by decide)).trans h5
  replace h38 := (he 38 (by decide)).trans h38
  replace HS := hz.trans HS
  clear hz he
  have h6 := hq
  clear hq
  refine wpList_nil ?_
  obtain ⟨f, e0, hf⟩ := wash HS
  have f3 := hf 3 _ h3
  have f4 := hf 4 _ h4
  have f5 := hf 5 _ h5
  have f38 := hf 38 _ h38
  have f6 := hf 6 _ h6
  clear hf
  rw [e0.trans (show _ = #[f 0, f 1, f 2, f 3, f 4, f 5, f 6, f 7, f 8, f 9, f 10, f 11, f 12, f 13, f 14, f 15, f 16, f 17, f 18, f 19, f 20, f 21, f 22, f 23, f 24, f 25, f 26, f 27, f 28, f 29, f 30, f 31, f 32, f 33, f 34, f 35, f 36, f 37, f 38, f 39, f 40, f 41, f 42, f 43, f 44, f 45, f 46, f 47, f 48, f 49, f 50, f 51, f 52, f 53, f 54, f 55, f 56, f 57, f 58, f 59, f 60, f 61, f 62, f 63, f 64, f 65, f 66, f 67, f 68, f 69, f 70, f 71, f 72] from by kernel_rfl), f3, f4, f5, f38, f6]
  clear f3 f4 f5 f38 f6
  clear e0
  try dsimp only
  clear h3 h4 h5 h38 h6 hM HS t1 t0 M
  go_wp2_with fail
  exact ⟨rfl, .slice (some ⟨g5, 0, none⟩) 1 1, by kernel_rfl, Fresh.one 3 hS rfl fun _ h => h⟩
set_option maxHeartbeats 2000000 in
set_option maxRecDepth 100000 in
theorem made_6 (X Y N : Int) (n m : F) {x y : Value} (w : World) (_ : 0 ≤ N ∧ N < 18446744073709551616) (hx : IsEl n x) (hy : IsEl m y) : Calls Try.prog 44 #[.agg #[.int .i64 6, .int .i64 X, .int .i64 Y, .int .u64 N], x, y] w (Fresh 5 IsEl [n * Fin.ofNat P (N % 4294967296).toNat] w) := by
  obtain ⟨r, hr⟩ : ∃ r, r = N % 4294967296 := ⟨_, rfl⟩
  have HMr : IntKind.u32.wrap N = r := by rw [hr]; exact u32_wrap N
  have Hr2 : 0 ≤ r ∧ r < 4294967296 := by omega
  rw [← hr]
  clear hr
  obtain ⟨cx, cy, rfl, rfl, hS⟩ := made_start 6 X Y N n m w hx hy
  clear hx hy
  go_enter Try.func44, Try.ntmps44
  go_wp2_with ((with_reducible refine guard_list ?_); first | (refine held_load 26 _ rfl ?_) | (refine held_load 22 _ rfl ?_) | (refine held_load 68 _ rfl ?_))
  change Held (wpList _ _ _ _ _ (((w.alloc (.cells #[.int .i64 6, .int .i64 X, .int .i64 Y, .int .u64 N] 63)).alloc (.cells cx 26)).alloc (.cells cy 26)))
  generalize ((w.alloc (.cells #[.int .i64 6, .int .i64 X, .int .i64 Y, .int .u64 N] 63)).alloc (.cells cx 26)).alloc (.cells cy 26) = W0 at hS ⊢
  obtain ⟨M, hM⟩ : ∃ M, M = W0.heap.size := ⟨_, rfl⟩
  refine hide_held fun t0 HT => ?_
  have HS : t0.size = 73 := by rw [HT]; rfl
  have h3 : t0[3]? = some (.pointer (some ⟨w.heap.size, 0, none⟩)) := by rw [HT]; rfl
  have h4 : t0[4]? = some (.pointer (some ⟨(w.heap.size + 1), 0, none⟩)) := by rw [HT]; rfl
  have h5 : t0[5]? = some (.pointer (some ⟨(w.heap.size + 2), 0, none⟩)) := by rw [HT]; rfl
  clear HT
  refine wp_list_most 5 (fun i => [41, 42, 43, 44, 45].getD i 0) (fun _ => none) (fun i => [IsEl n, (· = .pointer (some ⟨w.heap.size, 3, none⟩)), (· = .int .u64 N), (· = .int .u32 r), IsEl (n * Fin.ofNat P r.toNat)].getD i (fun _ => True)) (fun w' => Own w [(w.heap.size, 4, (· = .agg #[.int .i64 6, .int .i64 X, .int .i64 Y, .int .u64 N])), ((w.heap.size + 1), 5, IsEl n), ((w.heap.size + 2), 5, IsEl m)] w' ∧ M ≤ w'.heap.size) M
    (by kernel_rfl) (slots_apart (by kernel_rfl)) (slots_lie (by rw [HS]; kernel_rfl)) ⟨hS, Nat.le_of_eq hM⟩ (fun w' h => h.2) (fun w1 w2 h b => ⟨h.1.keep b, Nat.le_trans h.2 b.size⟩) ?_ ?_ ?_
  · clear hS
    intro i o hi ho hA
    have hc : i = 0 ∨ i = 1 ∨ i = 2 ∨ i = 3 ∨ i = 4 := by omega
    rcases hc with rfl | rfl | rfl | rfl | rfl
    · obtain rfl := Option.some.inj ho
      refine ⟨rfl, fun a w' hS hold hin K hK => ?_⟩
      refine if_always rfl ?_
      exact op_ld_own 5 tElem (.tmp 4) rfl rfl _ (eval_tmp ((hold 4 (slots_not (by kernel_rfl))).trans h4)) hS.1 1 rfl hK
    · obtain rfl := Option.some.inj ho
      refine ⟨rfl, fun a w' hS hold hin K hK => ?_⟩
      refine if_always rfl ?_
      exact op_field 63 (.tmp 3) 3 _ (.pointer (some ⟨w.heap.size, 3, none⟩)) rfl rfl (eval_tmp ((hold 3 (slots_not (by kernel_rfl))).trans h3)) (fun w => by kernel_rfl) hK
    · obtain rfl := Option.some.inj ho
      refine ⟨rfl, fun a w' hS hold hin K hK => ?_⟩
      obtain ⟨y1, x1, rfl⟩ := hin 1 rfl (by omega) rfl
      refine if_always rfl ?_
      exact op_cell_own tU64 _ w.heap.size 3 rfl rfl (eval_tmp x1) hS.1 0 _ _ rfl (.int .u64 N) rfl hK
    · obtain rfl := Option.some.inj ho
      refine ⟨rfl, fun a w' hS hold hin K hK => ?_⟩
      obtain ⟨y2, x2, rfl⟩ := hin 2 rfl (by omega) rfl
      refine if_always rfl ?_
      exact op_conv _ _ r rfl rfl (eval_tmp x2) HMr hK
    · obtain rfl := Option.some.inj ho
      refine ⟨rfl, fun a w' hS hold hin K hK => ?_⟩
      obtain ⟨y0, x0, (v0 : IsEl n y0)⟩ := hin 0 rfl (by omega) rfl
      obtain ⟨y3, x3, rfl⟩ := hin 3 rfl (by omega) rfl
      refine if_always rfl ?_
      exact op_fn2 _ _ _ _ _ _ rfl rfl (eval_tmp x0) (eval_tmp x3) (by intro args w; kernel_rfl) (times_ev Hr2 rfl v0 _) hK
  · intro i o sz hi ho hA; cases hA
  clear hS
  intro t1 V1 hs hold hout hall hne hS
  replace HS := hs.trans HS
  replace hS := hS.1
  obtain ⟨x45, q45, v45⟩ : ∃ x, t1[45]? = some x ∧ (IsEl (n * Fin.ofNat P r.toNat)) x := hout 4 (by omega) rfl
  replace h3 := (hold 3 (slots_not (by kernel_rfl))).trans h3
  replace h4 := (hold 4 (slots_not (by kernel_rfl))).trans h4
  replace h5 := (hold 5 (slots_not (by kernel_rfl))).trans h5
  clear hold hout hs hall hne
  simp only [List.drop_succ_cons, List.drop_zero]
  refine tl_lit1 5 _ 26 (.tmp 45) rfl rfl 46 rfl (by rw [HS]; decide) (by decide) (by kernel_rfl) (by kernel_rfl) (by kernel_rfl) _ (eval_tmp q45) (V := IsEl (n * Fin.ofNat P r.toNat)) v45 (fun x hx => el_row hx) hS fun g6 t1 V1' hS' hz hq he => ?_
  replace h3 := (he 3 (by decide)).trans h3
  replace h4 := (he 4 (by decide)).trans h4
  replace h5 := (he 5 (by decide)).trans h5
  replace HS := hz.trans HS
  clear hz he q45 v45
  have h46 := hq
  clear hq
  replace hS : Own w [(w.heap.size, 4, (· = .agg #[.int .i64 6, .int .i64 X, .int .i64 Y, .int .u64 N])), ((w.heap.size + 1), 5, IsEl n), ((w.heap.size + 2), 5, IsEl m), (g6, 5, IsEl (n * Fin.ofNat P r.toNat))] V1' := hS'
  clear hS'
  refine tl_assign rfl (.tmp 46) rfl 6 rfl (by rw [HS]; decide) _ (eval_tmp h46) fun t1 hz hq he => ?_
  replace h3 := (he 3 (by decide)).trans h3
  replace h4 := (he 4 (by decide)).trans h4
  replace h5 := (he 5 (by decide)).trans h5
  replace h46 := (he 46 (by decide)).trans h46
  replace HS := hz.trans HS
  clear hz he
  have h6 := hq
  clear hq
  refine wpList_nil ?_
  obtain ⟨f, e0, hf⟩ := wash HS
  have f3 := hf 3 _ h3
  have f4 := hf 4 _ h4
  have f5 := hf 5 _ h5
  have f46 := hf 46 _ h46
  have f6 := hf 6 _ h6
  clear hf
  rw [e0.trans (show _ = #[f 0, f 1, f 2, f 3, f 4, f 5, f 6, f 7, f 8, f 9, f 10, f 11, f 12, f 13, f 14, f 15, f 16, f 17, f 18, f 19, f 20, f 21, f 22, f 23, f 24, f 25, f 26, f 27, f 28, f 29, f 30, f 31, f 32, f 33, f 34, f 35, f 36, f 37, f 38, f 39, f 40, f 41, f 42, f 43, f 44, f 45, f 46, f 47, f 48, f 49, f 50, f 51, f 52, f 53, f 54, f 55, f 56, f 57, f 58, f 59, f 60, f 61, f 62, f 63, f 64, f 65, f 66, f 67, f 68, f 69, f 70, f 71, f 72] from by kernel_rfl), f3, f4, f5, f46, f6]
  clear f3 f4 f5 f46 f6
  clear e0
  try dsimp only
  clear h3 h4 h5 h46 h6 hM HS t1 t0 M
  go_wp2_with fail
  exact ⟨rfl, .slice (some ⟨g6, 0, none⟩) 1 1, by kernel_rfl, Fresh.one 3 hS rfl fun _ h => h⟩
set_option maxHeartbeats 2000000 in
set_option maxRecDepth 100000 in
theorem made_7 (X Y N : Int) (n m : F) {x y : Value} (w : World) (hN : 0 ≤ N ∧ N < 18446744073709551616) (hx : IsEl n x) (hy : IsEl m y) : Calls Try.prog 44 #[.agg #[.int .i64 7, .int .i64 X, .int .i64 Y, .int .u64 N], x, y] w (Fresh 5 IsEl [selF (decide (N % 2 = 1)) n m] w) := by
  obtain ⟨b, hb⟩ : ∃ b, decide (N % 2 = 1) = b := ⟨_, rfl⟩
  rw [hb]
  have HB : (0 ≤ N ∧ N < 18446744073709551616) ∧ decide (N % 2 = 1) = b := ⟨hN, hb⟩
  obtain ⟨cx, cy, rfl, rfl, hS⟩ := made_start 7 X Y N n m w hx hy
  clear hx hy
  go_enter Try.func44, Try.ntmps44
  go_wp2_with ((with_reducible refine guard_list ?_); first | (refine held_load 26 _ rfl ?_) | (refine held_load 22 _ rfl ?_) | (refine held_load 68 _ rfl ?_))
  change Held (wpList _ _ _ _ _ (((w.alloc (.cells #[.int .i64 7, .int .i64 X, .int .i64 Y, .int .u64 N] 63)).alloc (.cells cx 26)).alloc (.cells cy 26)))
  generalize ((w.alloc (.cells #[.int .i64 7, .int .i64 X, .int .i64 Y, .int .u64 N] 63)).alloc (.cells cx 26)).alloc (.cells cy 26) = W0 at hS ⊢
  obtain ⟨M, hM⟩ : ∃ M, M = W0.heap.size := ⟨_, rfl⟩
  refine hide_held fun t0 HT => ?_
  have HS : t0.size = 73 := by rw [HT]; rfl
  have h3 : t0[3]? = some (.pointer (some ⟨w.heap.size, 0, none⟩)) := by rw [HT]; rfl
  have h4 : t0[4]? = some (.pointer (some ⟨(w.heap.size + 1), 0, none⟩)) := by rw [HT]; rfl
  have h5 : t0[5]? = some (.pointer (some ⟨(w.heap.size + 2), 0, none⟩)) := by rw [HT]; rfl
  refine wp_from_most 5 (fun i => [49, 50, 51, 52, 53].getD i 0) (fun _ => none) (fun i => [(fun _ => True), (· = .int .u64 N), IsEl n, IsEl m, IsEl (selF b n m)].getD i (fun _ => True)) (fun w' => Own w [(w.heap.size, 4, (· = .agg #[.int .i64 7, .int .i64 X, .int .i64 Y, .int .u64 N])), ((w.heap.size + 1), 5, IsEl n), ((w.heap.size + 2), 5, IsEl m)] w' ∧ M ≤ w'.heap.size) M
    2 (by omega) (by kernel_rfl) ?_ (slots_apart (by kernel_rfl)) (slots_lie (by rw [HS]; kernel_rfl)) ⟨hS, Nat.le_of_eq hM⟩ (fun w' h => h.2) (fun w1 w2 h b => ⟨h.1.keep b, Nat.le_trans h.2 b.size⟩) ?_ ?_ ?_
  · intro j hj _
    have hc : j = 0 ∨ j = 1 := by omega
    rcases hc with rfl | rfl
    · exact ⟨rfl, _, by rw [HT]; rfl, trivial⟩
    · exact ⟨rfl, _, by rw [HT]; rfl, rfl⟩
  · clear hS
    intro i o h0i hi ho hA
    have hc : i = 2 ∨ i = 3 ∨ i = 4 := by omega
    rcases hc with rfl | rfl | rfl
    · obtain rfl := Option.some.inj ho
      refine ⟨rfl, fun a w' hS hold hin K hK => ?_⟩
      refine if_always rfl ?_
      exact op_ld_own 5 tElem (.tmp 4) rfl rfl _ (eval_tmp ((hold 4 (slots_not (by kernel_rfl))).trans h4)) hS.1 1 rfl hK
    · obtain rfl := Option.some.inj ho
      refine ⟨rfl, fun a w' hS hold hin K hK => ?_⟩
      refine if_always rfl ?_
      exact op_ld_own 5 tElem (.tmp 5) rfl rfl _ (eval_tmp ((hold 5 (slots_not (by kernel_rfl))).trans h5)) hS.1 2 rfl hK
    · obtain rfl := Option.some.inj ho
      refine ⟨rfl, fun a w' hS hold hin K hK => ?_⟩
      obtain ⟨y1, x1, rfl⟩ := hin 1 rfl (by omega) rfl
      obtain ⟨y2, x2, (v2 : IsEl n y2)⟩ := hin 2 rfl (by omega) rfl
      obtain ⟨y3, x3, (v3 : IsEl m y3)⟩ := hin 3 rfl (by omega) rfl
      refine if_always rfl ?_
      exact op_fn3 _ _ _ _ _ _ _ _ rfl rfl (eval_tmp x1) (eval_tmp x2) (eval_tmp x3) (by intro args w; kernel_rfl) (pick_ev b HB v2 v3 _) hK
  · intro i o sz h0i hi ho hA; cases hA
  clear hS
  intro t1 V1 hs hold hout hall hne hS
  replace HS := hs.trans HS
  replace hS := hS.1
  obtain ⟨x53, q53, v53⟩ : ∃ x, t1[53]? = some x ∧ (IsEl (selF b n m)) x := hout 4 (by omega) rfl
  replace h3 := (hold 3 (slots_not (by kernel_rfl))).trans h3
  replace h4 := (hold 4 (slots_not (by kernel_rfl))).trans h4
  replace h5 := (hold 5 (slots_not (by kernel_rfl))).trans h5
  clear hold hout hs hall hne
  simp only [List.drop_succ_cons, List.drop_zero]
  refine tl_lit1 5 _ 26 (.tmp 53) rfl rfl 54 rfl (by rw [HS]; decide) (by decide) (by kernel_rfl) (by kernel_rfl) (by kernel_rfl) _ (eval_tmp q53) (V := IsEl (selF b n m)) v53 (fun x hx => el_row hx) hS fun g7 t1 V1' hS' hz hq he => ?_
  replace h3 := (he 3 (by decide)).trans h3
  replace h4 := (he 4 (by decide)).trans h4
  replace h5 := (he 5 (by decide)).trans h5
  replace HS := hz.trans HS
  clear hz he q53 v53
  have h54 := hq
  clear hq
  replace hS : Own w [(w.heap.size, 4, (· = .agg #[.int .i64 7, .int .i64 X, .int .i64 Y, .int .u64 N])), ((w.heap.size + 1), 5, IsEl n), ((w.heap.size + 2), 5, IsEl m), (g7, 5, IsEl (selF b n m))] V1' := hS'
  clear hS'
  refine tl_assign rfl (.tmp 54) rfl 6 rfl (by rw [HS]; decide) _ (eval_tmp h54) fun t1 hz hq he => ?_
  replace h3 := (he 3 (by decide)).trans h3
  replace h4 := (he 4 (by decide)).trans h4
  replace h5 := (he 5 (by decide)).trans h5
  replace h54 := (he 54 (by decide)).trans h54
  replace HS := hz.trans HS
  clear hz he
  have h6 := hq
  clear hq
  refine wpList_nil ?_
  clear HT
  obtain ⟨f, e0, hf⟩ := wash HS
  have f3 := hf 3 _ h3
  have f4 := hf 4 _ h4
  have f5 := hf 5 _ h5
  have f54 := hf 54 _ h54
  have f6 := hf 6 _ h6
  clear hf
  rw [e0.trans (show _ = #[f 0, f 1, f 2, f 3, f 4, f 5, f 6, f 7, f 8, f 9, f 10, f 11, f 12, f 13, f 14, f 15, f 16, f 17, f 18, f 19, f 20, f 21, f 22, f 23, f 24, f 25, f 26, f 27, f 28, f 29, f 30, f 31, f 32, f 33, f 34, f 35, f 36, f 37, f 38, f 39, f 40, f 41, f 42, f 43, f 44, f 45, f 46, f 47, f 48, f 49, f 50, f 51, f 52, f 53, f 54, f 55, f 56, f 57, f 58, f 59, f 60, f 61, f 62, f 63, f 64, f 65, f 66, f 67, f 68, f 69, f 70, f 71, f 72] from by kernel_rfl), f3, f4, f5, f54, f6]
  clear f3 f4 f5 f54 f6
  clear e0
  try dsimp only
  clear h3 h4 h5 h54 h6 hM HS t1 t0 M
  go_wp2_with fail
  exact ⟨rfl, .slice (some ⟨g7, 0, none⟩) 1 1, by kernel_rfl, Fresh.one 3 hS rfl fun _ h => h⟩
set_option maxHeartbeats 2000000 in
set_option maxRecDepth 100000 in
theorem made_9 (X Y N : Int) (n m : F) {x y : Value} (w : World) (_ : 0 ≤ N ∧ N < 18446744073709551616) (hx : IsEl n x) (hy : IsEl m y) : Calls Try.prog 44 #[.agg #[.int .i64 9, .int .i64 X, .int .i64 Y, .int .u64 N], x, y] w (Fresh 5 IsEl [inv n] w) := by
  obtain ⟨r, hr⟩ : ∃ r, r = inv n := ⟨_, rfl⟩
  rw [← hr]
  obtain ⟨cx, cy, rfl, rfl, hS⟩ := made_start 9 X Y N n m w hx hy
  clear hx hy
  go_enter Try.func44, Try.ntmps44
  go_wp2_with ((with_reducible refine guard_list ?_); first | (refine held_load 26 _ rfl ?_) | (refine held_load 22 _ rfl ?_) | (refine held_load 68 _ rfl ?_))
  change Held (wpList _ _ _ _ _ (((w.alloc (.cells #[.int .i64 9, .int .i64 X, .int .i64 Y, .int .u64 N] 63)).alloc (.cells cx 26)).alloc (.cells cy 26)))
  generalize ((w.alloc (.cells #[.int .i64 9, .int .i64 X, .int .i64 Y, .int .u64 N] 63)).alloc (.cells cx 26)).alloc (.cells cy 26) = W0 at hS ⊢
  obtain ⟨M, hM⟩ : ∃ M, M = W0.heap.size := ⟨_, rfl⟩
  refine hide_held fun t0 HT => ?_
  have HS : t0.size = 73 := by rw [HT]; rfl
  have h3 : t0[3]? = some (.pointer (some ⟨w.heap.size, 0, none⟩)) := by rw [HT]; rfl
  have h4 : t0[4]? = some (.pointer (some ⟨(w.heap.size + 1), 0, none⟩)) := by rw [HT]; rfl
  have h5 : t0[5]? = some (.pointer (some ⟨(w.heap.size + 2), 0, none⟩)) := by rw [HT]; rfl
  clear HT
  refine wp_list_most 2 (fun i => [70, 71].getD i 0) (fun _ => none) (fun i => [IsEl n, IsEl r].getD i (fun _ => True)) (fun w' => Own w [(w.heap.size, 4, (· = .agg #[.int .i64 9, .int .i64 X, .int .i64 Y, .int .u64 N])), ((w.heap.size + 1), 5, IsEl n), ((w.heap.size + 2), 5, IsEl m)] w' ∧ M ≤ w'.heap.size) M
    (by kernel_rfl) (slots_apart (by kernel_rfl)) (slots_lie (by rw [HS]; kernel_rfl)) ⟨hS, Nat.le_of_eq hM⟩ (fun w' h => h.2) (fun w1 w2 h b => ⟨h.1.keep b, Nat.le_trans h.2 b.size⟩) ?_ ?_ ?_
  · clear hS
    intro i o hi ho hA
    have hc : i = 0 ∨ i = 1 := by omega
    rcases hc with rfl | rfl
    · obtain rfl := Option.some.inj ho
      refine ⟨rfl, fun a w' hS hold hin K hK => ?_⟩
      refine if_always rfl ?_
      exact op_ld_own 5 tElem (.tmp 4) rfl rfl _ (eval_tmp ((hold 4 (slots_not (by kernel_rfl))).trans h4)) hS.1 1 rfl hK
    · obtain rfl := Option.some.inj ho
      refine ⟨rfl, fun a w' hS hold hin K hK => ?_⟩
      obtain ⟨y0, x0, (v0 : IsEl n y0)⟩ := hin 0 rfl (by omega) rfl
      refine if_always rfl ?_
      exact op_fn1 _ _ _ _ rfl rfl (eval_tmp x0) (by intro args w; kernel_rfl) (inv_ev v0 hr _) hK
  · intro i o sz hi ho hA; cases hA
  clear hS
  intro t1 V1 hs hold hout hall hne hS
  replace HS := hs.trans HS
  replace hS := hS.1
  obtain ⟨x71, q71, v71⟩ : ∃ x, t1[71]? = some x ∧ (IsEl r) x := hout 1 (by omega) rfl
  replace h3 := (hold 3 (slots_not (by kernel_rfl))).trans h3
  replace h4 := (hold 4 (slots_not (by kernel_rfl))).trans h4
  replace h5 := (hold 5 (slots_not (by kernel_rfl))).trans h5
  clear hold hout hs hall hne
  simp only [List.drop_succ_cons, List.drop_zero]
  refine tl_lit1 5 _ 26 (.tmp 71) rfl rfl 72 rfl (by rw [HS]; decide) (by decide) (by kernel_rfl) (by kernel_rfl) (by kernel_rfl) _ (eval_tmp q71) (V := IsEl r) v71 (fun x hx => el_row hx) hS fun g9 t1 V1' hS' hz hq he => ?_
  replace h3 := (he 3 (by decide)).trans h3
  replace h4 := (he 4 (by decide)).trans h4
  replace h5 := (he 5 (by decide)).trans h5
  replace HS := hz.trans HS
  clear hz he q71 v71
  have h72 := hq
  clear hq
  replace hS : Own w [(w.heap.size, 4, (· = .agg #[.int .i64 9, .int .i64 X, .int .i64 Y, .int .u64 N])), ((w.heap.size + 1), 5, IsEl n), ((w.heap.size + 2), 5, IsEl m), (g9, 5, IsEl r)] V1' := hS'
  clear hS'
  refine tl_assign rfl (.tmp 72) rfl 6 rfl (by rw [HS]; decide) _ (eval_tmp h72) fun t1 hz hq he => ?_
  replace h3 := (he 3 (by decide)).trans h3
  replace h4 := (he 4 (by decide)).trans h4
  replace h5 := (he 5 (by decide)).trans h5
  replace h72 := (he 72 (by decide)).trans h72
  replace HS := hz.trans HS
  clear hz he
  have h6 := hq
  clear hq
  refine wpList_nil ?_
  obtain ⟨f, e0, hf⟩ := wash HS
  have f3 := hf 3 _ h3
  have f4 := hf 4 _ h4
  have f5 := hf 5 _ h5
  have f72 := hf 72 _ h72
  have f6 := hf 6 _ h6
  clear hf
  rw [e0.trans (show _ = #[f 0, f 1, f 2, f 3, f 4, f 5, f 6, f 7, f 8, f 9, f 10, f 11, f 12, f 13, f 14, f 15, f 16, f 17, f 18, f 19, f 20, f 21, f 22, f 23, f 24, f 25, f 26, f 27, f 28, f 29, f 30, f 31, f 32, f 33, f 34, f 35, f 36, f 37, f 38, f 39, f 40, f 41, f 42, f 43, f 44, f 45, f 46, f 47, f 48, f 49, f 50, f 51, f 52, f 53, f 54, f 55, f 56, f 57, f 58, f 59, f 60, f 61, f 62, f 63, f 64, f 65, f 66, f 67, f 68, f 69, f 70, f 71, f 72] from by kernel_rfl), f3, f4, f5, f72, f6]
  clear f3 f4 f5 f72 f6
  clear e0
  try dsimp only
  clear h3 h4 h5 h72 h6 hM HS t1 t0 M
  go_wp2_with fail
  exact ⟨rfl, .slice (some ⟨g9, 0, none⟩) 1 1, by kernel_rfl, Fresh.one 3 hS rfl fun _ h => h⟩
set_option maxHeartbeats 2000000 in
set_option maxRecDepth 100000 in
theorem made_8 (X Y N : Int) (n m : F) {x y : Value} (w : World) (hN : 0 ≤ N ∧ N < 18446744073709551616) (hx : IsEl n x) (hy : IsEl m y) : Calls Try.prog 44 #[.agg #[.int .i64 8, .int .i64 X, .int .i64 Y, .int .u64 N], x, y] w (Fresh 5 IsEl [selF (decide (N % 2 = 1)) m n, selF (decide (N % 2 = 1)) n m] w) := by
  obtain ⟨b, hb⟩ : ∃ b, decide (N % 2 = 1) = b := ⟨_, rfl⟩
  rw [hb]
  have HB : (0 ≤ N ∧ N < 18446744073709551616) ∧ decide (N % 2 = 1) = b := ⟨hN, hb⟩
  obtain ⟨cx, cy, rfl, rfl, hS⟩ := made_start 8 X Y N n m w hx hy
  clear hx hy
  go_enter Try.func44, Try.ntmps44
  go_wp2_with ((with_reducible refine guard_list ?_); first | (refine held_load 26 _ rfl ?_) | (refine held_load 22 _ rfl ?_) | (refine held_load 68 _ rfl ?_))
  change Held (wpList _ _ _ _ _ (((w.alloc (.cells #[.int .i64 8, .int .i64 X, .int .i64 Y, .int .u64 N] 63)).alloc (.cells cx 26)).alloc (.cells cy 26)))
  generalize ((w.alloc (.cells #[.int .i64 8, .int .i64 X, .int .i64 Y, .int .u64 N] 63)).alloc (.cells cx 26)).alloc (.cells cy 26) = W0 at hS ⊢
  obtain ⟨M, hM⟩ : ∃ M, M = W0.heap.size := ⟨_, rfl⟩
  have hMB : w.heap.size ≤ M := hM ▸ hS.1.size
  have ltM := hS.lt
  rw [← hM] at ltM
  refine hide_held fun t0 HT => ?_
  have HS : t0.size = 73 := by rw [HT]; rfl
  have h3 : t0[3]? = some (.pointer (some ⟨w.heap.size, 0, none⟩)) := by rw [HT]; rfl
  have h4 : t0[4]? = some (.pointer (some ⟨(w.heap.size + 1), 0, none⟩)) := by rw [HT]; rfl
  have h5 : t0[5]? = some (.pointer (some ⟨(w.heap.size + 2), 0, none⟩)) := by rw [HT]; rfl
  refine wp_from_most 10 (fun i => [58, 59, 60, 61, 62, 57, 63, 64, 7, 8].getD i 0) (fun i => [none, none, none, none, none, none, none, none, some 5, some 5].getD i none) (fun i => [(fun _ => True), (· = .int .u64 N), IsEl n, IsEl m, IsEl2 (selF b m n) (selF b n m), IsEl2 (selF b m n) (selF b n m), IsEl (selF b m n), IsEl (selF b n m), (fun _ => True), (fun _ => True)].getD i (fun _ => True)) (fun w' => Own w [(w.heap.size, 4, (· = .agg #[.int .i64 8, .int .i64 X, .int .i64 Y, .int .u64 N])), ((w.heap.size + 1), 5, IsEl n), ((w.heap.size + 2), 5, IsEl m)] w' ∧ M ≤ w'.heap.size) M
    2 (by omega) (by kernel_rfl) ?_ (slots_apart (by kernel_rfl)) (slots_lie (by rw [HS]; kernel_rfl)) ⟨hS, Nat.le_of_eq hM⟩ (fun w' h => h.2) (fun w1 w2 h b => ⟨h.1.keep b, Nat.le_trans h.2 b.size⟩) ?_ ?_ ?_
  · intro j hj _
    have hc : j = 0 ∨ j = 1 := by omega
    rcases hc with rfl | rfl
    · exact ⟨rfl, _, by rw [HT]; rfl, trivial⟩
    · exact ⟨rfl, _, by rw [HT]; rfl, rfl⟩
  · clear hS
    intro i o h0i hi ho hA
    have hc : i = 2 ∨ i = 3 ∨ i = 4 ∨ i = 5 ∨ i = 6 ∨ i = 7 ∨ i = 8 ∨ i = 9 := by omega
    rcases hc with rfl | rfl | rfl | rfl | rfl | rfl | rfl | rfl
    · obtain rfl := Option.some.inj ho
      refine ⟨rfl, fun a w' hS hold hin K hK => ?_⟩
      refine if_always rfl ?_
      exact op_ld_own 5 tElem (.tmp 4) rfl rfl _ (eval_tmp ((hold 4 (slots_not (by kernel_rfl))).trans h4)) hS.1 1 rfl hK
    · obtain rfl := Option.some.inj ho
      refine ⟨rfl, fun a w' hS hold hin K hK => ?_⟩
      refine if_always rfl ?_
      exact op_ld_own 5 tElem (.tmp 5) rfl rfl _ (eval_tmp ((hold 5 (slots_not (by kernel_rfl))).trans h5)) hS.1 2 rfl hK
    · obtain rfl := Option.some.inj ho
      refine ⟨rfl, fun a w' hS hold hin K hK => ?_⟩
      obtain ⟨y1, x1, rfl⟩ := hin 1 rfl (by omega) rfl
      obtain ⟨y2, x2, (v2 : IsEl n y2)⟩ := hin 2 rfl (by omega) rfl
      obtain ⟨y3, x3, (v3 : IsEl m y3)⟩ := hin 3 rfl (by omega) rfl
      refine if_always rfl ?_
      exact op_fn3 _ _ _ _ _ _ _ _ rfl rfl (eval_tmp x1) (eval_tmp x2) (eval_tmp x3) (by intro args w; kernel_rfl) (swap_ev b HB v2 v3 _) hK
    · obtain rfl := Option.some.inj ho
      refine ⟨rfl, fun a w' hS hold hin K hK => ?_⟩
      obtain ⟨y4, x4, (v4 : IsEl2 (selF b m n) (selF b n m) y4)⟩ := hin 4 rfl (by omega) rfl
      refine if_always rfl ?_
      exact op_move (V := IsEl2 (selF b m n) (selF b n m)) _ _ rfl rfl (eval_tmp x4) v4 hK
    · obtain rfl := Option.some.inj ho
      refine ⟨rfl, fun a w' hS hold hin K hK => ?_⟩
      obtain ⟨y5, x5, (v5 : IsEl2 (selF b m n) (selF b n m) y5)⟩ := hin 5 rfl (by omega) rfl
      refine if_always rfl ?_
      exact op_ext0 _ rfl rfl (eval_tmp x5) v5 hK
    · obtain rfl := Option.some.inj ho
      refine ⟨rfl, fun a w' hS hold hin K hK => ?_⟩
      obtain ⟨y5, x5, (v5 : IsEl2 (selF b m n) (selF b n m) y5)⟩ := hin 5 rfl (by omega) rfl
      refine if_always rfl ?_
      exact op_ext1 _ rfl rfl (eval_tmp x5) v5 hK
    · cases hA
    · cases hA
  · intro i o sz h0i hi ho hA
    have hc : i = 2 ∨ i = 3 ∨ i = 4 ∨ i = 5 ∨ i = 6 ∨ i = 7 ∨ i = 8 ∨ i = 9 := by omega
    rcases hc with rfl | rfl | rfl | rfl | rfl | rfl | rfl | rfl
    · cases hA
    · cases hA
    · cases hA
    · cases hA
    · cases hA
    · cases hA
    · obtain rfl := Option.some.inj ho
      obtain rfl := Option.some.inj hA
      exact ⟨rfl, rfl, 26, #[.int .u64 0, .int .u64 0, .int .u64 0, .int .u64 0, .int .u64 0], rfl, fun a w' K h => wp_new 26 #[.int .u64 0, .int .u64 0, .int .u64 0, .int .u64 0, .int .u64 0] (fun w => by kernel_rfl) h⟩
    · obtain rfl := Option.some.inj ho
      obtain rfl := Option.some.inj hA
      exact ⟨rfl, rfl, 26, #[.int .u64 0, .int .u64 0, .int .u64 0, .int .u64 0, .int .u64 0], rfl, fun a w' K h => wp_new 26 #[.int .u64 0, .int .u64 0, .int .u64 0, .int .u64 0, .int .u64 0] (fun w => by kernel_rfl) h⟩
  clear hS
  intro t1 V1 hs hold hout hall hne hS
  replace HS := hs.trans HS
  replace hS := hS.1
  obtain ⟨ga, h7, b7, r7⟩ : ∃ g, t1[7]? = some (.pointer (some ⟨g, 0, none⟩)) ∧ M ≤ g ∧ ∃ cs ty, V1.heap[g]? = some (.cells cs ty (0, 0)) ∧ cs.size = 5 := by
    obtain ⟨g, p1, p2, ty, cs, p3, p4⟩ := hall 8 (by omega) 5 rfl
    exact ⟨g, p1, p2, cs, ty, p3, p4⟩
  obtain ⟨gb, h8, b8, r8⟩ : ∃ g, t1[8]? = some (.pointer (some ⟨g, 0, none⟩)) ∧ M ≤ g ∧ ∃ cs ty, V1.heap[g]? = some (.cells cs ty (0, 0)) ∧ cs.size = 5 := by
    obtain ⟨g, p1, p2, ty, cs, p3, p4⟩ := hall 9 (by omega) 5 rfl
    exact ⟨g, p1, p2, cs, ty, p3, p4⟩
  have n7_8 : ga ≠ gb := fun h => hne 8 9 (by omega) (by omega) (by omega) rfl rfl (show t1[7]? = t1[8]? by rw [h7, h8, h])
  replace hS : Own w [(w.heap.size, 4, (· = .agg #[.int .i64 8, .int .i64 X, .int .i64 Y, .int .u64 N])), ((w.heap.size + 1), 5, IsEl n), ((w.heap.size + 2), 5, IsEl m), (ga, 5, (fun _ => True))] V1 := hS.add (Nat.le_trans hMB b7) (fun r hr => Nat.ne_of_lt (Nat.lt_of_lt_of_le (ltM r hr) b7)) (Own.any r7)
  replace hS : Own w [(w.heap.size, 4, (· = .agg #[.int .i64 8, .int .i64 X, .int .i64 Y, .int .u64 N])), ((w.heap.size + 1), 5, IsEl n), ((w.heap.size + 2), 5, IsEl m), (ga, 5, (fun _ => True)), (gb, 5, (fun _ => True))] V1 := hS.add (Nat.le_trans hMB b8) (Own.ne_app (g1 := ga) (fun r hr => Nat.ne_of_lt (Nat.lt_of_lt_of_le (ltM r hr) b8)) n7_8) (Own.any r8)
  obtain ⟨x63, q63, v63⟩ : ∃ x, t1[63]? = some x ∧ (IsEl (selF b m n)) x := hout 6 (by omega) rfl
  obtain ⟨x64, q64, v64⟩ : ∃ x, t1[64]? = some x ∧ (IsEl (selF b n m)) x := hout 7 (by omega) rfl
  replace h3 := (hold 3 (slots_not (by kernel_rfl))).trans h3
  replace h4 := (hold 4 (slots_not (by kernel_rfl))).trans h4
  replace h5 := (hold 5 (slots_not (by kernel_rfl))).trans h5
  clear hold hout hs hall hne
  simp only [List.drop_succ_cons, List.drop_zero]
  refine st_own 5 tElem rfl (.tmp 7) (.tmp 63) rfl rfl _ _ (eval_tmp h7) (eval_tmp q63) (V' := IsEl (selF b m n)) v63 (fun x hx => el_row hx) hS 3 rfl fun V1' hS' _ => ?_
  replace hS : Own w [(w.heap.size, 4, (· = .agg #[.int .i64 8, .int .i64 X, .int .i64 Y, .int .u64 N])), ((w.heap.size + 1), 5, IsEl n), ((w.heap.size + 2), 5, IsEl m), (ga, 5, IsEl (selF b m n)), (gb, 5, (fun _ => True))] V1' := hS'
  clear hS'
  refine st_own 5 tElem rfl (.tmp 8) (.tmp 64) rfl rfl _ _ (eval_tmp h8) (eval_tmp q64) (V' := IsEl (selF b n m)) v64 (fun x hx => el_row hx) hS 4 rfl fun V1'' hS' _ => ?_
  replace hS : Own w [(w.heap.size, 4, (· = .agg #[.int .i64 8, .int .i64 X, .int .i64 Y, .int .u64 N])), ((w.heap.size + 1), 5, IsEl n), ((w.heap.size + 2), 5, IsEl m), (ga, 5, IsEl (selF b m n)), (gb, 5, IsEl (selF b n m))] V1'' := hS'
  clear hS'
  refine wpList_nil ?_
  clear HT
  obtain ⟨f, e0, hf⟩ := wash HS
  have f3 := hf 3 _ h3
  have f4 := hf 4 _ h4
  have f5 := hf 5 _ h5
  have f7 := hf 7 _ h7
  have f8 := hf 8 _ h8
  clear hf
  rw [e0.trans (show _ = #[f 0, f 1, f 2, f 3, f 4, f 5, f 6, f 7, f 8, f 9, f 10, f 11, f 12, f 13, f 14, f 15, f 16, f 17, f 18, f 19, f 20, f 21, f 22, f 23, f 24, f 25, f 26, f 27, f 28, f 29, f 30, f 31, f 32, f 33, f 34, f 35, f 36, f 37, f 38, f 39, f 40, f 41, f 42, f 43, f 44, f 45, f 46, f 47, f 48, f 49, f 50, f 51, f 52, f 53, f 54, f 55, f 56, f 57, f 58, f 59, f 60, f 61, f 62, f 63, f 64, f 65, f 66, f 67, f 68, f 69, f 70, f 71, f 72] from by kernel_rfl), f3, f4, f5, f7, f8]
  clear f3 f4 f5 f7 f8
  clear e0
  try dsimp only
  clear h3 h4 h5 h7 h8 q63 q64 v63 v64 b7 b8 r7 r8 n7_8 ltM hMB hM HS t1 t0 M
  go_wp2_with ((with_reducible refine guard_list ?_); first | (refine held_load 26 _ rfl ?_) | (refine held_load 22 _ rfl ?_) | (refine held_load 68 _ rfl ?_))
  obtain ⟨M, hM⟩ : ∃ M, M = V1''.heap.size := ⟨_, rfl⟩
  refine hide_held fun t0 HT => ?_
  have HS : t0.size = 73 := by rw [HT]; rfl
  have h3 : t0[3]? = some (.pointer (some ⟨w.heap.size, 0, none⟩)) := by rw [HT]; rfl
  have h4 : t0[4]? = some (.pointer (some ⟨(w.heap.size + 1), 0, none⟩)) := by rw [HT]; rfl
  have h5 : t0[5]? = some (.pointer (some ⟨(w.heap.size + 2), 0, none⟩)) := by rw [HT]; rfl
  have h7 : t0[7]? = some (.pointer (some ⟨ga, 0, none⟩)) := by rw [HT]; rfl
  have h8 : t0[8]? = some (.pointer (some ⟨gb, 0, none⟩)) := by rw [HT]; rfl
  clear HT
  refine wp_list_most 2 (fun i => [65, 66].getD i 0) (fun _ => none) (fun i => [IsEl (selF b m n), IsEl (selF b n m)].getD i (fun _ => True)) (fun w' => Own w [(w.heap.size, 4, (· = .agg #[.int .i64 8, .int .i64 X, .int .i64 Y, .int .u64 N])), ((w.heap.size + 1), 5, IsEl n), ((w.heap.size + 2), 5, IsEl m), (ga, 5, IsEl (selF b m n)), (gb, 5, IsEl (selF b n m))] w' ∧ M ≤ w'.heap.size) M
    (by kernel_rfl) (slots_apart (by kernel_rfl)) (slots_lie (by rw [HS]; kernel_rfl)) ⟨hS, Nat.le_of_eq hM⟩ (fun w' h => h.2) (fun w1 w2 h b => ⟨h.1.keep b, Nat.le_trans h.2 b.size⟩) ?_ ?_ ?_
  · clear hS
    intro i o hi ho hA
    have hc : i = 0 ∨ i = 1 := by omega
    rcases hc with rfl | rfl
    · obtain rfl := Option.some.inj ho
      refine ⟨rfl, fun a w' hS hold hin K hK => ?_⟩
      refine if_always rfl ?_
      exact op_ld_own 5 tElem (.tmp 7) rfl rfl _ (eval_tmp ((hold 7 (slots_not (by kernel_rfl))).trans h7)) hS.1 3 rfl hK
    · obtain rfl := Option.some.inj ho
      refine ⟨rfl, fun a w' hS hold hin K hK => ?_⟩
      refine if_always rfl ?_
      exact op_ld_own 5 tElem (.tmp 8) rfl rfl _ (eval_tmp ((hold 8 (slots_not (by kernel_rfl))).trans h8)) hS.1 4 rfl hK
  · intro i o sz hi ho hA; cases hA
  clear hS
  intro t1 V2 hs hold hout hall hne hS
  replace HS := hs.trans HS
  replace hS := hS.1
  obtain ⟨x65, q65, v65⟩ : ∃ x, t1[65]? = some x ∧ (IsEl (selF b m n)) x := hout 0 (by omega) rfl
  obtain ⟨x66, q66, v66⟩ : ∃ x, t1[66]? = some x ∧ (IsEl (selF b n m)) x := hout 1 (by omega) rfl
  replace h3 := (hold 3 (slots_not (by kernel_rfl))).trans h3
  replace h4 := (hold 4 (slots_not (by kernel_rfl))).trans h4
  replace h5 := (hold 5 (slots_not (by kernel_rfl))).trans h5
  replace h7 := (hold 7 (slots_not (by kernel_rfl))).trans h7
  replace h8 := (hold 8 (slots_not (by kernel_rfl))).trans h8
  clear hold hout hs hall hne
  simp only [List.drop_succ_cons, List.drop_zero]
  obtain ⟨c65, rfl, zc65, oc65⟩ := (fun x hx => el_row hx) _ v65
  obtain ⟨c66, rfl, zc66, oc66⟩ := (fun x hx => el_row hx) _ v66
  refine tl_lit2 5 _ 26 (.tmp 65) (.tmp 66) rfl rfl 67 rfl (by rw [HS]; decide) (by decide) (by kernel_rfl) (by kernel_rfl) (by kernel_rfl) c65 c66 (eval_tmp q65) (eval_tmp q66) zc65 zc66 hS fun g8 t1 V2' hS' hz hq he => ?_
  replace h3 := (he 3 (by decide)).trans h3
  replace h4 := (he 4 (by decide)).trans h4
  replace h5 := (he 5 (by decide)).trans h5
  replace h7 := (he 7 (by decide)).trans h7
  replace h8 := (he 8 (by decide)).trans h8
  replace HS := hz.trans HS
  clear hz he q65 q66
  have h67 := hq
  clear hq
  replace hS : Own w [(w.heap.size, 4, (· = .agg #[.int .i64 8, .int .i64 X, .int .i64 Y, .int .u64 N])), ((w.heap.size + 1), 5, IsEl n), ((w.heap.size + 2), 5, IsEl m), (ga, 5, IsEl (selF b m n)), (gb, 5, IsEl (selF b n m)), (g8, 2 * 5, (· = .agg (c65 ++ c66)))] V2' := hS'
  clear hS'
  refine tl_assign rfl (.tmp 67) rfl 6 rfl (by rw [HS]; decide) _ (eval_tmp h67) fun t1 hz hq he => ?_
  replace h3 := (he 3 (by decide)).trans h3
  replace h4 := (he 4 (by decide)).trans h4
  replace h5 := (he 5 (by decide)).trans h5
  replace h7 := (he 7 (by decide)).trans h7
  replace h8 := (he 8 (by decide)).trans h8
  replace h67 := (he 67 (by decide)).trans h67
  replace HS := hz.trans HS
  clear hz he
  have h6 := hq
  clear hq
  refine wpList_nil ?_
  obtain ⟨f, e0, hf⟩ := wash HS
  have f3 := hf 3 _ h3
  have f4 := hf 4 _ h4
  have f5 := hf 5 _ h5
  have f7 := hf 7 _ h7
  have f8 := hf 8 _ h8
  have f67 := hf 67 _ h67
  have f6 := hf 6 _ h6
  clear hf
  rw [e0.trans (show _ = #[f 0, f 1, f 2, f 3, f 4, f 5, f 6, f 7, f 8, f 9, f 10, f 11, f 12, f 13, f 14, f 15, f 16, f 17, f 18, f 19, f 20, f 21, f 22, f 23, f 24, f 25, f 26, f 27, f 28, f 29, f 30, f 31, f 32, f 33, f 34, f 35, f 36, f 37, f 38, f 39, f 40, f 41, f 42, f 43, f 44, f 45, f 46, f 47, f 48, f 49, f 50, f 51, f 52, f 53, f 54, f 55, f 56, f 57, f 58, f 59, f 60, f 61, f 62, f 63, f 64, f 65, f 66, f 67, f 68, f 69, f 70, f 71, f 72] from by kernel_rfl), f3, f4, f5, f7, f8, f67, f6]
  clear f3 f4 f5 f7 f8 f67 f6
  clear e0
  try dsimp only
  clear h3 h4 h5 h7 h8 h67 h6 hM HS t1 t0 M
  go_wp2_with fail
  exact ⟨rfl, .slice (some ⟨g8, 0, none⟩) 2 2, by kernel_rfl, Fresh.two 5 hS rfl zc65 zc66 v65 v66⟩
set_option maxHeartbeats 2000000 in
set_option maxRecDepth 100000 in
theorem made_0 (D X Y N : Int) (h1 : D ≠ 1) (h2 : D ≠ 2) (h3 : D ≠ 3) (h4 : D ≠ 4) (h5 : D ≠ 5) (h6 : D ≠ 6) (h7 : D ≠ 7) (h8 : D ≠ 8) (h9 : D ≠ 9) (n m : F) {x y : Value} (w : World) (hx : IsEl n x) (hy : IsEl m y) : Calls Try.prog 44 #[.agg #[.int .i64 D, .int .i64 X, .int .i64 Y, .int .u64 N], x, y] w (Fresh 5 IsEl [] w) := by
  obtain ⟨cx, cy, rfl, rfl, hS⟩ := made_start D X Y N n m w hx hy
  clear hx hy
  have hbel := hS.1
  clear hS
  go_enter Try.func44, Try.ntmps44
  go_wp2_with fail
  exact ⟨rfl, .slice none 0 0, by kernel_rfl, hbel, .inl ⟨rfl, rfl⟩⟩
end Go.Proofs.Ytciakfhjjnmeeaa

namespace Go.Proofs.Ytciakfhjjnmeeaa
open Go.RowKit Nt

/-- The reference's row of a number. -/
def IsNm (n : F) (x : Value) : Prop := x = .agg (vals (bytesN n.val))
theorem sub08_ev {n m R : F} (h : n - m = R) (w : World) : Calls Try.prog 80 #[.agg (vals (bytesN n.val)), .agg (vals (bytesN m.val))] w (Gives (· = .agg (vals (bytesN R.val))) w) := by
  subst h; exact sub08_any n m w
theorem sel_if (N : Nat) (n m : F) : (if (N : Int) % 2 = 1 then n else m) = selF (decide ((N : Int) % 2 = 1)) n m := by
  unfold selF
  by_cases h : (N : Int) % 2 = 1 <;> simp [h]
theorem meant_start (D X Y N : Int) (n m : F) (w : World) : 
    Own w [(w.heap.size, 4, (· = .agg #[.int .i64 D, .int .i64 X, .int .i64 Y, .int .u64 N])), (w.heap.size + 1, 32, (· = .agg (vals (bytesN n.val)))), (w.heap.size + 2, 32, (· = .agg (vals (bytesN m.val))))] (((w.alloc (.cells #[.int .i64 D, .int .i64 X, .int .i64 Y, .int .u64 N] 63)).alloc (.cells (vals (bytesN n.val)) 29)).alloc (.cells (vals (bytesN m.val)) 29)) := by
  have a0 : Own w [] (((w.alloc (.cells #[.int .i64 D, .int .i64 X, .int .i64 Y, .int .u64 N] 63)).alloc (.cells (vals (bytesN n.val)) 29)).alloc (.cells (vals (bytesN m.val)) 29)) := Own.of_below (by go_grown)
  have a1 := a0.add (g := w.heap.size) (n := 4) (V := (· = .agg #[.int .i64 D, .int .i64 X, .int .i64 Y, .int .u64 N])) (Nat.le_refl _) (fun r hr => by cases hr) ⟨_, _, new3_0 .., rfl, rfl⟩
  have a2 := a1.add (g := w.heap.size + 1) (n := 32) (V := (· = .agg (vals (bytesN n.val)))) (by omega) (by simp) ⟨_, _, new3_1 .., by rw [vals_size, bytesN_len], rfl⟩
  exact a2.add (g := w.heap.size + 2) (n := 32) (V := (· = .agg (vals (bytesN m.val)))) (by omega) (by simp) ⟨_, _, new3_2 .., by rw [vals_size, bytesN_len], rfl⟩
set_option maxHeartbeats 2000000 in
set_option maxRecDepth 100000 in
theorem meant_1 (X Y : Int) (N : Nat) (n m : F) (w : World) (_ : N < 18446744073709551616) : Calls Try.prog 45 #[.agg #[.int .i64 1, .int .i64 X, .int .i64 Y, .int .u64 N], .agg (vals (bytesN n.val)), .agg (vals (bytesN m.val))] w (Fresh 32 IsNm [n + m] w) := by
  obtain ⟨R, hR⟩ : ∃ R : F, n + m = R := ⟨_, rfl⟩
  rw [hR]
  have hS := meant_start 1 X Y N n m w
  have HNl := Lib.hid (bytesN_len n.val)
  have HMl := Lib.hid (bytesN_len m.val)
  go_enter Try.func45, Try.ntmps45
  go_wp2_with ((with_reducible refine guard_list ?_); first | (refine held_load 26 _ rfl ?_) | (refine held_load 22 _ rfl ?_) | (refine held_load 68 _ rfl ?_) | (refine held_load 29 _ rfl ?_))
  change Held (wpList _ _ _ _ _ (((w.alloc (.cells #[.int .i64 1, .int .i64 X, .int .i64 Y, .int .u64 N] 63)).alloc (.cells (vals (bytesN n.val)) 29)).alloc (.cells (vals (bytesN m.val)) 29)))
  generalize (((w.alloc (.cells #[.int .i64 1, .int .i64 X, .int .i64 Y, .int .u64 N] 63)).alloc (.cells (vals (bytesN n.val)) 29)).alloc (.cells (vals (bytesN m.val)) 29)) = W0 at hS ⊢
  obtain ⟨M, hM⟩ : ∃ M, M = W0.heap.size := ⟨_, rfl⟩
  refine hide_held fun t0 HT => ?_
  have HS : t0.size = 73 := by rw [HT]; rfl
  have h3 : t0[3]? = some (.pointer (some ⟨w.heap.size, 0, none⟩)) := by rw [HT]; rfl
  have h4 : t0[4]? = some (.pointer (some ⟨(w.heap.size + 1), 0, none⟩)) := by rw [HT]; rfl
  have h5 : t0[5]? = some (.pointer (some ⟨(w.heap.size + 2), 0, none⟩)) := by rw [HT]; rfl
  clear HT
  refine wp_list_most 3 (fun i => [11, 12, 13].getD i 0) (fun _ => none) (fun i => [(· = .agg (vals (bytesN n.val))), (· = .agg (vals (bytesN m.val))), (· = .agg (vals (bytesN R.val)))].getD i (fun _ => True)) (fun w' => Own w [(w.heap.size, 4, (· = .agg #[.int .i64 1, .int .i64 X, .int .i64 Y, .int .u64 N])), ((w.heap.size + 1), 32, (· = .agg (vals (bytesN n.val)))), ((w.heap.size + 2), 32, (· = .agg (vals (bytesN m.val))))] w' ∧ M ≤ w'.heap.size) M
    (by kernel_rfl) (slots_apart (by kernel_rfl)) (slots_lie (by rw [HS]; kernel_rfl)) ⟨hS, Nat.le_of_eq hM⟩ (fun w' h => h.2) (fun w1 w2 h b => ⟨h.1.keep b, Nat.le_trans h.2 b.size⟩) ?_ ?_ ?_
  · clear hS
    intro i o hi ho hA
    have hc : i = 0 ∨ i = 1 ∨ i = 2 := by omega
    rcases hc with rfl | rfl | rfl
    · obtain rfl := Option.some.inj ho
      refine ⟨rfl, fun a w' hS hold hin K hK => ?_⟩
      refine if_always rfl ?_
      exact op_ld_own 32 tNum (.tmp 4) rfl rfl _ (eval_tmp ((hold 4 (slots_not (by kernel_rfl))).trans h4)) hS.1 1 rfl hK
    · obtain rfl := Option.some.inj ho
      refine ⟨rfl, fun a w' hS hold hin K hK => ?_⟩
      refine if_always rfl ?_
      exact op_ld_own 32 tNum (.tmp 5) rfl rfl _ (eval_tmp ((hold 5 (slots_not (by kernel_rfl))).trans h5)) hS.1 2 rfl hK
    · obtain rfl := Option.some.inj ho
      refine ⟨rfl, fun a w' hS hold hin K hK => ?_⟩
      obtain ⟨y0, x0, rfl⟩ := hin 0 rfl (by omega) rfl
      obtain ⟨y1, x1, rfl⟩ := hin 1 rfl (by omega) rfl
      refine if_always rfl ?_
      exact op_fn2 _ _ _ _ _ _ rfl rfl (eval_tmp x0) (eval_tmp x1) (by intro args w; kernel_rfl) (add08_ev hR _) hK
  · intro i o sz hi ho hA; cases hA
  clear hS
  intro t1 V1 hs hold hout hall hne hS
  replace HS := hs.trans HS
  replace hS := hS.1
  obtain ⟨x13, q13, v13⟩ : ∃ x, t1[13]? = some x ∧ ((· = .agg (vals (bytesN R.val)))) x := hout 2 (by omega) rfl
  replace h3 := (hold 3 (slots_not (by kernel_rfl))).trans h3
  replace h4 := (hold 4 (slots_not (by kernel_rfl))).trans h4
  replace h5 := (hold 5 (slots_not (by kernel_rfl))).trans h5
  clear hold hout hs hall hne
  simp only [List.drop_succ_cons, List.drop_zero]
  refine tl_lit1 32 _ 29 (.tmp 13) rfl rfl 14 rfl (by rw [HS]; decide) (by decide) (by kernel_rfl) (by kernel_rfl) (by kernel_rfl) _ (eval_tmp q13) (V := (· = .agg (vals (bytesN R.val)))) v13 (by_num (bytesN_len _)) hS fun g1 t1 V1' hS' hz hq he => ?_
  replace h3 := (he 3 (by decide)).trans h3
  replace h4 := (he 4 (by decide)).trans h4
  replace h5 := (he 5 (by decide)).trans h5
  replace HS := hz.trans HS
  clear hz he q13 v13
  have h14 := hq
  clear hq
  replace hS : Own w [(w.heap.size, 4, (· = .agg #[.int .i64 1, .int .i64 X, .int .i64 Y, .int .u64 N])), ((w.heap.size + 1), 32, (· = .agg (vals (bytesN n.val)))), ((w.heap.size + 2), 32, (· = .agg (vals (bytesN m.val)))), (g1, 32, (· = .agg (vals (bytesN R.val))))] V1' := hS'
  clear hS'
  refine tl_assign rfl (.tmp 14) rfl 6 rfl (by rw [HS]; decide) _ (eval_tmp h14) fun t1 hz hq he => ?_
  replace h3 := (he 3 (by decide)).trans h3
  replace h4 := (he 4 (by decide)).trans h4
  replace h5 := (he 5 (by decide)).trans h5
  replace h14 := (he 14 (by decide)).trans h14
  replace HS := hz.trans HS
  clear hz he
  have h6 := hq
  clear hq
  refine wpList_nil ?_
  obtain ⟨f, e0, hf⟩ := wash HS
  have f3 := hf 3 _ h3
  have f4 := hf 4 _ h4
  have f5 := hf 5 _ h5
  have f14 := hf 14 _ h14
  have f6 := hf 6 _ h6
  clear hf
  rw [e0.trans (show _ = #[f 0, f 1, f 2, f 3, f 4, f 5, f 6, f 7, f 8, f 9, f 10, f 11, f 12, f 13, f 14, f 15, f 16, f 17, f 18, f 19, f 20, f 21, f 22, f 23, f 24, f 25, f 26, f 27, f 28, f 29, f 30, f 31, f 32, f 33, f 34, f 35, f 36, f 37, f 38, f 39, f 40, f 41, f 42, f 43, f 44, f 45, f 46, f 47, f 48, f 49, f 50, f 51, f 52, f 53, f 54, f 55, f 56, f 57, f 58, f 59, f 60, f 61, f 62, f 63, f 64, f 65, f 66, f 67, f 68, f 69, f 70, f 71, f 72] from by kernel_rfl), f3, f4, f5, f14, f6]
  clear f3 f4 f5 f14 f6
  clear e0
  try dsimp only
  clear h3 h4 h5 h14 h6 hM HS t1 t0 M
  go_wp2_with fail
  exact ⟨rfl, .slice (some ⟨g1, 0, none⟩) 1 1, by kernel_rfl, Fresh.one 3 hS rfl fun _ h => h⟩
set_option maxHeartbeats 2000000 in
set_option maxRecDepth 100000 in
theorem meant_2 (X Y : Int) (N : Nat) (n m : F) (w : World) (_ : N < 18446744073709551616) : Calls Try.prog 45 #[.agg #[.int .i64 2, .int .i64 X, .int .i64 Y, .int .u64 N], .agg (vals (bytesN n.val)), .agg (vals (bytesN m.val))] w (Fresh 32 IsNm [n - m] w) := by
  obtain ⟨R, hR⟩ : ∃ R : F, n - m = R := ⟨_, rfl⟩
  rw [hR]
  have hS := meant_start 2 X Y N n m w
  have HNl := Lib.hid (bytesN_len n.val)
  have HMl := Lib.hid (bytesN_len m.val)
  go_enter Try.func45, Try.ntmps45
  go_wp2_with ((with_reducible refine guard_list ?_); first | (refine held_load 26 _ rfl ?_) | (refine held_load 22 _ rfl ?_) | (refine held_load 68 _ rfl ?_) | (refine held_load 29 _ rfl ?_))
  change Held (wpList _ _ _ _ _ (((w.alloc (.cells #[.int .i64 2, .int .i64 X, .int .i64 Y, .int .u64 N] 63)).alloc (.cells (vals (bytesN n.val)) 29)).alloc (.cells (vals (bytesN m.val)) 29)))
  generalize (((w.alloc (.cells #[.int .i64 2, .int .i64 X, .int .i64 Y, .int .u64 N] 63)).alloc (.cells (vals (bytesN n.val)) 29)).alloc (.cells (vals (bytesN m.val)) 29)) = W0 at hS ⊢
  obtain ⟨M, hM⟩ : ∃ M, M = W0.heap.size := ⟨_, rfl⟩
  refine hide_held fun t0 HT => ?_
  have HS : t0.size = 73 := by rw [HT]; rfl
  have h3 : t0[3]? = some (.pointer (some ⟨w.heap.size, 0, none⟩)) := by rw [HT]; rfl
  have h4 : t0[4]? = some (.pointer (some ⟨(w.heap.size + 1), 0, none⟩)) := by rw [HT]; rfl
  have h5 : t0[5]? = some (.pointer (some ⟨(w.heap.size + 2), 0, none⟩)) := by rw [HT]; rfl
  clear HT
  refine wp_list_most 3 (fun i => [17, 18, 19].getD i 0) (fun _ => none) (fun i => [(· = .agg (vals (bytesN n.val))), (· = .agg (vals (bytesN m.val))), (· = .agg (vals (bytesN R.val)))].getD i (fun _ => True)) (fun w' => Own w [(w.heap.size, 4, (· = .agg #[.int .i64 2, .int .i64 X, .int .i64 Y, .int .u64 N])), ((w.heap.size + 1), 32, (· = .agg (vals (bytesN n.val)))), ((w.heap.size + 2), 32, (· = .agg (vals (bytesN m.val))))] w' ∧ M ≤ w'.heap.size) M
    (by kernel_rfl) (slots_apart (by kernel_rfl)) (slots_lie (by rw [HS]; kernel_rfl)) ⟨hS, Nat.le_of_eq hM⟩ (fun w' h => h.2) (fun w1 w2 h b => ⟨h.1.keep b, Nat.le_trans h.2 b.size⟩) ?_ ?_ ?_
  · clear hS
    intro i o hi ho hA
    have hc : i = 0 ∨ i = 1 ∨ i = 2 := by omega
    rcases hc with rfl | rfl | rfl
    · obtain rfl := Option.some.inj ho
      refine ⟨rfl, fun a w' hS hold hin K hK => ?_⟩
      refine if_always rfl ?_
      exact op_ld_own 32 tNum (.tmp 4) rfl rfl _ (eval_tmp ((hold 4 (slots_not (by kernel_rfl))).trans h4)) hS.1 1 rfl hK
    · obtain rfl := Option.some.inj ho
      refine ⟨rfl, fun a w' hS hold hin K hK => ?_⟩
      refine if_always rfl ?_
      exact op_ld_own 32 tNum (.tmp 5) rfl rfl _ (eval_tmp ((hold 5 (slots_not (by kernel_rfl))).trans h5)) hS.1 2 rfl hK
    · obtain rfl := Option.some.inj ho
      refine ⟨rfl, fun a w' hS hold hin K hK => ?_⟩
      obtain ⟨y0, x0, rfl⟩ := hin 0 rfl (by omega) rfl
      obtain ⟨y1, x1, rfl⟩ := hin 1 rfl (by omega) rfl
      refine if_always rfl ?_
      exact op_fn2 _ _ _ _ _ _ rfl rfl (eval_tmp x0) (eval_tmp x1) (by intro args w; kernel_rfl) (sub08_ev hR _) hK
  · intro i o sz hi ho hA; cases hA
  clear hS
  intro t1 V1 hs hold hout hall hne hS
  replace HS := hs.trans HS
  replace hS := hS.1
  obtain ⟨x19, q19, v19⟩ : ∃ x, t1[19]? = some x ∧ ((· = .agg (vals (bytesN R.val)))) x := hout 2 (by omega) rfl
  replace h3 := (hold 3 (slots_not (by kernel_rfl))).trans h3
  replace h4 := (hold 4 (slots_not (by kernel_rfl))).trans h4
  replace h5 := (hold 5 (slots_not (by kernel_rfl))).trans h5
  clear hold hout hs hall hne
  simp only [List.drop_succ_cons, List.drop_zero]
  refine tl_lit1 32 _ 29 (.tmp 19) rfl rfl 20 rfl (by rw [HS]; decide) (by decide) (by kernel_rfl) (by kernel_rfl) (by kernel_rfl) _ (eval_tmp q19) (V := (· = .agg (vals (bytesN R.val)))) v19 (by_num (bytesN_len _)) hS fun g2 t1 V1' hS' hz hq he => ?_
  replace h3 := (he 3 (by decide)).trans h3
  replace h4 := (he 4 (by decide)).trans h4
  replace h5 := (he 5 (by decide)).trans h5
  replace HS := hz.trans HS
  clear hz he q19 v19
  have h20 := hq
  clear hq
  replace hS : Own w [(w.heap.size, 4, (· = .agg #[.int .i64 2, .int .i64 X, .int .i64 Y, .int .u64 N])), ((w.heap.size + 1), 32, (· = .agg (vals (bytesN n.val)))), ((w.heap.size + 2), 32, (· = .agg (vals (bytesN m.val)))), (g2, 32, (· = .agg (vals (bytesN R.val))))] V1' := hS'
  clear hS'
  refine tl_assign rfl (.tmp 20) rfl 6 rfl (by rw [HS]; decide) _ (eval_tmp h20) fun t1 hz hq he => ?_
  replace h3 := (he 3 (by decide)).trans h3
  replace h4 := (he 4 (by decide)).trans h4
  replace h5 := (he 5 (by decide)).trans h5
  replace h20 := (he 20 (by decide)).trans h20
  replace HS := hz.trans HS
  clear hz he
  have h6 := hq
  clear hq
  refine wpList_nil ?_
  obtain ⟨f, e0, hf⟩ := wash HS
  have f3 := hf 3 _ h3
  have f4 := hf 4 _ h4
  have f5 := hf 5 _ h5
  have f20 := hf 20 _ h20
  have f6 := hf 6 _ h6
  clear hf
  rw [e0.trans (show _ = #[f 0, f 1, f 2, f 3, f 4, f 5, f 6, f 7, f 8, f 9, f 10, f 11, f 12, f 13, f 14, f 15, f 16, f 17, f 18, f 19, f 20, f 21, f 22, f 23, f 24, f 25, f 26, f 27, f 28, f 29, f 30, f 31, f 32, f 33, f 34, f 35, f 36, f 37, f 38, f 39, f 40, f 41, f 42, f 43, f 44, f 45, f 46, f 47, f 48, f 49, f 50, f 51, f 52, f 53, f 54, f 55, f 56, f 57, f 58, f 59, f 60, f 61, f 62, f 63, f 64, f 65, f 66, f 67, f 68, f 69, f 70, f 71, f 72] from by kernel_rfl), f3, f4, f5, f20, f6]
  clear f3 f4 f5 f20 f6
  clear e0
  try dsimp only
  clear h3 h4 h5 h20 h6 hM HS t1 t0 M
  go_wp2_with fail
  exact ⟨rfl, .slice (some ⟨g2, 0, none⟩) 1 1, by kernel_rfl, Fresh.one 3 hS rfl fun _ h => h⟩
set_option maxHeartbeats 2000000 in
set_option maxRecDepth 100000 in
theorem meant_3 (X Y : Int) (N : Nat) (n m : F) (w : World) (_ : N < 18446744073709551616) : Calls Try.prog 45 #[.agg #[.int .i64 3, .int .i64 X, .int .i64 Y, .int .u64 N], .agg (vals (bytesN n.val)), .agg (vals (bytesN m.val))] w (Fresh 32 IsNm [0 - n] w) := by
  obtain ⟨R, hR⟩ : ∃ R : F, 0 - n = R := ⟨_, rfl⟩
  rw [hR]
  have hS := meant_start 3 X Y N n m w
  have HNl := Lib.hid (bytesN_len n.val)
  have HMl := Lib.hid (bytesN_len m.val)
  go_enter Try.func45, Try.ntmps45
  go_wp2_with ((with_reducible refine guard_list ?_); first | (refine held_load 26 _ rfl ?_) | (refine held_load 22 _ rfl ?_) | (refine held_load 68 _ rfl ?_) | (refine held_load 29 _ rfl ?_))
  change Held (wpList _ _ _ _ _ (((w.alloc (.cells #[.int .i64 3, .int .i64 X, .int .i64 Y, .int .u64 N] 63)).alloc (.cells (vals (bytesN n.val)) 29)).alloc (.cells (vals (bytesN m.val)) 29)))
  generalize (((w.alloc (.cells #[.int .i64 3, .int .i64 X, .int .i64 Y, .int .u64 N] 63)).alloc (.cells (vals (bytesN n.val)) 29)).alloc (.cells (vals (bytesN m.val)) 29)) = W0 at hS ⊢
  obtain ⟨M, hM⟩ : ∃ M, M = W0.heap.size := ⟨_, rfl⟩
  refine hide_held fun t0 HT => ?_
  have HS : t0.size = 73 := by rw [HT]; rfl
  have h3 : t0[3]? = some (.pointer (some ⟨w.heap.size, 0, none⟩)) := by rw [HT]; rfl
  have h4 : t0[4]? = some (.pointer (some ⟨(w.heap.size + 1), 0, none⟩)) := by rw [HT]; rfl
  have h5 : t0[5]? = some (.pointer (some ⟨(w.heap.size + 2), 0, none⟩)) := by rw [HT]; rfl
  clear HT
  refine wp_list_most 2 (fun i => [23, 24].getD i 0) (fun _ => none) (fun i => [(· = .agg (vals (bytesN n.val))), (· = .agg (vals (bytesN R.val)))].getD i (fun _ => True)) (fun w' => Own w [(w.heap.size, 4, (· = .agg #[.int .i64 3, .int .i64 X, .int .i64 Y, .int .u64 N])), ((w.heap.size + 1), 32, (· = .agg (vals (bytesN n.val)))), ((w.heap.size + 2), 32, (· = .agg (vals (bytesN m.val))))] w' ∧ M ≤ w'.heap.size) M
    (by kernel_rfl) (slots_apart (by kernel_rfl)) (slots_lie (by rw [HS]; kernel_rfl)) ⟨hS, Nat.le_of_eq hM⟩ (fun w' h => h.2) (fun w1 w2 h b => ⟨h.1.keep b, Nat.le_trans h.2 b.size⟩) ?_ ?_ ?_
  · clear hS
    intro i o hi ho hA
    have hc : i = 0 ∨ i = 1 := by omega
    rcases hc with rfl | rfl
    · obtain rfl := Option.some.inj ho
      refine ⟨rfl, fun a w' hS hold hin K hK => ?_⟩
      refine if_always rfl ?_
      exact op_ld_own 32 tNum (.tmp 4) rfl rfl _ (eval_tmp ((hold 4 (slots_not (by kernel_rfl))).trans h4)) hS.1 1 rfl hK
    · obtain rfl := Option.some.inj ho
      refine ⟨rfl, fun a w' hS hold hin K hK => ?_⟩
      obtain ⟨y0, x0, rfl⟩ := hin 0 rfl (by omega) rfl
      refine if_always rfl ?_
      exact op_fn1 _ _ _ _ rfl rfl (eval_tmp x0) (by intro args w; kernel_rfl) (neg08_ev hR _) hK
  · intro i o sz hi ho hA; cases hA
  clear hS
  intro t1 V1 hs hold hout hall hne hS
  replace HS := hs.trans HS
  replace hS := hS.1
  obtain ⟨x24, q24, v24⟩ : ∃ x, t1[24]? = some x ∧ ((· = .agg (vals (bytesN R.val)))) x := hout 1 (by omega) rfl
  replace h3 := (hold 3 (slots_not (by kernel_rfl))).trans h3
  replace h4 := (hold 4 (slots_not (by kernel_rfl))).trans h4
  replace h5 := (hold 5 (slots_not (by kernel_rfl))).trans h5
  clear hold hout hs hall hne
  simp only [List.drop_succ_cons, List.drop_zero]
  refine tl_lit1 32 _ 29 (.tmp 24) rfl rfl 25 rfl (by rw [HS]; decide) (by decide) (by kernel_rfl) (by kernel_rfl) (by kernel_rfl) _ (eval_tmp q24) (V := (· = .agg (vals (bytesN R.val)))) v24 (by_num (bytesN_len _)) hS fun g3 t1 V1' hS' hz hq he => ?_
  replace h3 := (he 3 (by decide)).trans h3
  replace h4 := (he 4 (by decide)).trans h4
  replace h5 := (he 5 (by decide)).trans h5
  replace HS := hz.trans HS
  clear hz he q24 v24
  have h25 := hq
  clear hq
  replace hS : Own w [(w.heap.size, 4, (· = .agg #[.int .i64 3, .int .i64 X, .int .i64 Y, .int .u64 N])), ((w.heap.size + 1), 32, (· = .agg (vals (bytesN n.val)))), ((w.heap.size + 2), 32, (· = .agg (vals (bytesN m.val)))), (g3, 32, (· = .agg (vals (bytesN R.val))))] V1' := hS'
  clear hS'
  refine tl_assign rfl (.tmp 25) rfl 6 rfl (by rw [HS]; decide) _ (eval_tmp h25) fun t1 hz hq he => ?_
  replace h3 := (he 3 (by decide)).trans h3
  replace h4 := (he 4 (by decide)).trans h4
  replace h5 := (he 5 (by decide)).trans h5
  replace h25 := (he 25 (by decide)).trans h25
  replace HS := hz.trans HS
  clear hz he
  have h6 := hq
  clear hq
  refine wpList_nil ?_
  obtain ⟨f, e0, hf⟩ := wash HS
  have f3 := hf 3 _ h3
  have f4 := hf 4 _ h4
  have f5 := hf 5 _ h5
  have f25 := hf 25 _ h25
  have f6 := hf 6 _ h6
  clear hf
  rw [e0.trans (show _ = #[f 0, f 1, f 2, f 3, f 4, f 5, f 6, f 7, f 8, f 9, f 10, f 11, f 12, f 13, f 14, f 15, f 16, f 17, f 18, f 19, f 20, f 21, f 22, f 23, f 24, f 25, f 26, f 27, f 28, f 29, f 30, f 31, f 32, f 33, f 34, f 35, f 36, f 37, f 38, f 39, f 40, f 41, f 42, f 43, f 44, f 45, f 46, f 47, f 48, f 49, f 50, f 51, f 52, f 53, f 54, f 55, f 56, f 57, f 58, f 59, f 60, f 61, f 62, f 63, f 64, f 65, f 66, f 67, f 68, f 69, f 70, f 71, f 72] from by kernel_rfl), f3, f4, f5, f25, f6]
  clear f3 f4 f5 f25 f6
  clear e0
  try dsimp only
  clear h3 h4 h5 h25 h6 hM HS t1 t0 M
  go_wp2_with fail
  exact ⟨rfl, .slice (some ⟨g3, 0, none⟩) 1 1, by kernel_rfl, Fresh.one 3 hS rfl fun _ h => h⟩
set_option maxHeartbeats 2000000 in
set_option maxRecDepth 100000 in
theorem meant_4 (X Y : Int) (N : Nat) (n m : F) (w : World) (_ : N < 18446744073709551616) : Calls Try.prog 45 #[.agg #[.int .i64 4, .int .i64 X, .int .i64 Y, .int .u64 N], .agg (vals (bytesN n.val)), .agg (vals (bytesN m.val))] w (Fresh 32 IsNm [n * m] w) := by
  obtain ⟨R, hR⟩ : ∃ R : F, n * m = R := ⟨_, rfl⟩
  rw [hR]
  have hS := meant_start 4 X Y N n m w
  have HNl := Lib.hid (bytesN_len n.val)
  have HMl := Lib.hid (bytesN_len m.val)
  go_enter Try.func45, Try.ntmps45
  go_wp2_with ((with_reducible refine guard_list ?_); first | (refine held_load 26 _ rfl ?_) | (refine held_load 22 _ rfl ?_) | (refine held_load 68 _ rfl ?_) | (refine held_load 29 _ rfl ?_))
  change Held (wpList _ _ _ _ _ (((w.alloc (.cells #[.int .i64 4, .int .i64 X, .int .i64 Y, .int .u64 N] 63)).alloc (.cells (vals (bytesN n.val)) 29)).alloc (.cells (vals (bytesN m.val)) 29)))
  generalize (((w.alloc (.cells #[.int .i64 4, .int .i64 X, .int .i64 Y, .int .u64 N] 63)).alloc (.cells (vals (bytesN n.val)) 29)).alloc (.cells (vals (bytesN m.val)) 29)) = W0 at hS ⊢
  obtain ⟨M, hM⟩ : ∃ M, M = W0.heap.size := ⟨_, rfl⟩
  refine hide_held fun t0 HT => ?_
  have HS : t0.size = 73 := by rw [HT]; rfl
  have h3 : t0[3]? = some (.pointer (some ⟨w.heap.size, 0, none⟩)) := by rw [HT]; rfl
  have h4 : t0[4]? = some (.pointer (some ⟨(w.heap.size + 1), 0, none⟩)) := by rw [HT]; rfl
  have h5 : t0[5]? = some (.pointer (some ⟨(w.heap.size + 2), 0, none⟩)) := by rw [HT]; rfl
  clear HT
  refine wp_list_most 3 (fun i => [28, 29, 30].getD i 0) (fun _ => none) (fun i => [(· = .agg (vals (bytesN n.val))), (· = .agg (vals (bytesN m.val))), (· = .agg (vals (bytesN R.val)))].getD i (fun _ => True)) (fun w' => Own w [(w.heap.size, 4, (· = .agg #[.int .i64 4, .int .i64 X, .int .i64 Y, .int .u64 N])), ((w.heap.size + 1), 32, (· = .agg (vals (bytesN n.val)))), ((w.heap.size + 2), 32, (· = .agg (vals (bytesN m.val))))] w' ∧ M ≤ w'.heap.size) M
    (by kernel_rfl) (slots_apart (by kernel_rfl)) (slots_lie (by rw [HS]; kernel_rfl)) ⟨hS, Nat.le_of_eq hM⟩ (fun w' h => h.2) (fun w1 w2 h b => ⟨h.1.keep b, Nat.le_trans h.2 b.size⟩) ?_ ?_ ?_
  · clear hS
    intro i o hi ho hA
    have hc : i = 0 ∨ i = 1 ∨ i = 2 := by omega
    rcases hc with rfl | rfl | rfl
    · obtain rfl := Option.some.inj ho
      refine ⟨rfl, fun a w' hS hold hin K hK => ?_⟩
      refine if_always rfl ?_
      exact op_ld_own 32 tNum (.tmp 4) rfl rfl _ (eval_tmp ((hold 4 (slots_not (by kernel_rfl))).trans h4)) hS.1 1 rfl hK
    · obtain rfl := Option.some.inj ho
      refine ⟨rfl, fun a w' hS hold hin K hK => ?_⟩
      refine if_always rfl ?_
      exact op_ld_own 32 tNum (.tmp 5) rfl rfl _ (eval_tmp ((hold 5 (slots_not (by kernel_rfl))).trans h5)) hS.1 2 rfl hK
    · obtain rfl := Option.some.inj ho
      refine ⟨rfl, fun a w' hS hold hin K hK => ?_⟩
      obtain ⟨y0, x0, rfl⟩ := hin 0 rfl (by omega) rfl
      obtain ⟨y1, x1, rfl⟩ := hin 1 rfl (by omega) rfl
      refine if_always rfl ?_
      exact op_fn2 _ _ _ _ _ _ rfl rfl (eval_tmp x0) (eval_tmp x1) (by intro args w; kernel_rfl) (mul08_ev rfl rfl hR.symm rfl _) hK
  · intro i o sz hi ho hA; cases hA
  clear hS
  intro t1 V1 hs hold hout hall hne hS
  replace HS := hs.trans HS
  replace hS := hS.1
  obtain ⟨x30, q30, v30⟩ : ∃ x, t1[30]? = some x ∧ ((· = .agg (vals (bytesN R.val)))) x := hout 2 (by omega) rfl
  replace h3 := (hold 3 (slots_not (by kernel_rfl))).trans h3
  replace h4 := (hold 4 (slots_not (by kernel_rfl))).trans h4
  replace h5 := (hold 5 (slots_not (by kernel_rfl))).trans h5
  clear hold hout hs hall hne
  simp only [List.drop_succ_cons, List.drop_zero]
  refine tl_lit1 32 _ 29 (.tmp 30) rfl rfl 31 rfl (by rw [HS]; decide) (by decide) (by kernel_rfl) (by kernel_rfl) (by kernel_rfl) _ (eval_tmp q30) (V := (· = .agg (vals (bytesN R.val)))) v30 (by_num (bytesN_len _)) hS fun g4 t1 V1' hS' hz hq he => ?_
  replace h3 := (he 3 (by decide)).trans h3
  replace h4 := (he 4 (by decide)).trans h4
  replace h5 := (he 5 (by decide)).trans h5
  replace HS := hz.trans HS
  clear hz he q30 v30
  have h31 := hq
  clear hq
  replace hS : Own w [(w.heap.size, 4, (· = .agg #[.int .i64 4, .int .i64 X, .int .i64 Y, .int .u64 N])), ((w.heap.size + 1), 32, (· = .agg (vals (bytesN n.val)))), ((w.heap.size + 2), 32, (· = .agg (vals (bytesN m.val)))), (g4, 32, (· = .agg (vals (bytesN R.val))))] V1' := hS'
  clear hS'
  refine tl_assign rfl (.tmp 31) rfl 6 rfl (by rw [HS]; decide) _ (eval_tmp h31) fun t1 hz hq he => ?_
  replace h3 := (he 3 (by decide)).trans h3
  replace h4 := (he 4 (by decide)).trans h4
  replace h5 := (he 5 (by decide)).trans h5
  replace h31 := (he 31 (by decide)).trans h31
  replace HS := hz.trans HS
  clear hz he
  have h6 := hq
  clear hq
  refine wpList_nil ?_
  obtain ⟨f, e0, hf⟩ := wash HS
  have f3 := hf 3 _ h3
  have f4 := hf 4 _ h4
  have f5 := hf 5 _ h5
  have f31 := hf 31 _ h31
  have f6 := hf 6 _ h6
  clear hf
  rw [e0.trans (show _ = #[f 0, f 1, f 2, f 3, f 4, f 5, f 6, f 7, f 8, f 9, f 10, f 11, f 12, f 13, f 14, f 15, f 16, f 17, f 18, f 19, f 20, f 21, f 22, f 23, f 24, f 25, f 26, f 27, f 28, f 29, f 30, f 31, f 32, f 33, f 34, f 35, f 36, f 37, f 38, f 39, f 40, f 41, f 42, f 43, f 44, f 45, f 46, f 47, f 48, f 49, f 50, f 51, f 52, f 53, f 54, f 55, f 56, f 57, f 58, f 59, f 60, f 61, f 62, f 63, f 64, f 65, f 66, f 67, f 68, f 69, f 70, f 71, f 72] from by kernel_rfl), f3, f4, f5, f31, f6]
  clear f3 f4 f5 f31 f6
  clear e0
  try dsimp only
  clear h3 h4 h5 h31 h6 hM HS t1 t0 M
  go_wp2_with fail
  exact ⟨rfl, .slice (some ⟨g4, 0, none⟩) 1 1, by kernel_rfl, Fresh.one 3 hS rfl fun _ h => h⟩
set_option maxHeartbeats 2000000 in
set_option maxRecDepth 100000 in
theorem meant_5 (X Y : Int) (N : Nat) (n m : F) (w : World) (_ : N < 18446744073709551616) : Calls Try.prog 45 #[.agg #[.int .i64 5, .int .i64 X, .int .i64 Y, .int .u64 N], .agg (vals (bytesN n.val)), .agg (vals (bytesN m.val))] w (Fresh 32 IsNm [n * n] w) := by
  obtain ⟨R, hR⟩ : ∃ R : F, n * n = R := ⟨_, rfl⟩
  rw [hR]
  have hS := meant_start 5 X Y N n m w
  have HNl := Lib.hid (bytesN_len n.val)
  have HMl := Lib.hid (bytesN_len m.val)
  go_enter Try.func45, Try.ntmps45
  go_wp2_with ((with_reducible refine guard_list ?_); first | (refine held_load 26 _ rfl ?_) | (refine held_load 22 _ rfl ?_) | (refine held_load 68 _ rfl ?_) | (refine held_load 29 _ rfl ?_))
  change Held (wpList _ _ _ _ _ (((w.alloc (.cells #[.int .i64 5, .int .i64 X, .int .i64 Y, .int .u64 N] 63)).alloc (.cells (vals (bytesN n.val)) 29)).alloc (.cells (vals (bytesN m.val)) 29)))
  generalize (((w.alloc (.cells #[.int .i64 5, .int .i64 X, .int .i64 Y, .int .u64 N] 63)).alloc (.cells (vals (bytesN n.val)) 29)).alloc (.cells (vals (bytesN m.val)) 29)) = W0 at hS ⊢
  obtain ⟨M, hM⟩ : ∃ M, M = W0.heap.size := ⟨_, rfl⟩
  refine hide_held fun t0 HT => ?_
  have HS : t0.size = 73 := by rw [HT]; rfl
  have h3 : t0[3]? = some (.pointer (some ⟨w.heap.size, 0, none⟩)) := by rw [HT]; rfl
  have h4 : t0[4]? = some (.pointer (some ⟨(w.heap.size + 1), 0, none⟩)) := by rw [HT]; rfl
  have h5 : t0[5]? = some (.pointer (some ⟨(w.heap.size + 2), 0, none⟩)) := by rw [HT]; rfl
  clear HT
  refine wp_list_most 3 (fun i => [34, 35, 36].getD i 0) (fun _ => none) (fun i => [(· = .agg (vals (bytesN n.val))), (· = .agg (vals (bytesN n.val))), (· = .agg (vals (bytesN R.val)))].getD i (fun _ => True)) (fun w' => Own w [(w.heap.size, 4, (· = .agg #[.int .i64 5, .int .i64 X, .int .i64 Y, .int .u64 N])), ((w.heap.size + 1), 32, (· = .agg (vals (bytesN n.val)))), ((w.heap.size + 2), 32, (· = .agg (vals (bytesN m.val))))] w' ∧ M ≤ w'.heap.size) M
    (by kernel_rfl) (slots_apart (by kernel_rfl)) (slots_lie (by rw [HS]; kernel_rfl)) ⟨hS, Nat.le_of_eq hM⟩ (fun w' h => h.2) (fun w1 w2 h b => ⟨h.1.keep b, Nat.le_trans h.2 b.size⟩) ?_ ?_ ?_
  · clear hS
    intro i o hi ho hA
    have hc : i = 0 ∨ i = 1 ∨ i = 2 := by omega
    rcases hc with rfl | rfl | rfl
    · obtain rfl := Option.some.inj ho
      refine ⟨rfl, fun a w' hS hold hin K hK => ?_⟩
      refine if_always rfl ?_
      exact op_ld_own 32 tNum (.tmp 4) rfl rfl _ (eval_tmp ((hold 4 (slots_not (by kernel_rfl))).trans h4)) hS.1 1 rfl hK
    · obtain rfl := Option.some.inj ho
      refine ⟨rfl, fun a w' hS hold hin K hK => ?_⟩
      refine if_always rfl ?_
      exact op_ld_own 32 tNum (.tmp 4) rfl rfl _ (eval_tmp ((hold 4 (slots_not (by kernel_rfl))).trans h4)) hS.1 1 rfl hK
    · obtain rfl := Option.some.inj ho
      refine ⟨rfl, fun a w' hS hold hin K hK => ?_⟩
      obtain ⟨y0, x0, rfl⟩ := hin 0 rfl (by omega) rfl
      obtain ⟨y1, x1, rfl⟩ := hin 1 rfl (by omega) rfl
      refine if_always rfl ?_
      exact op_fn2 _ _ _ _ _ _ rfl rfl (eval_tmp x0) (eval_tmp x1) (by intro args w; kernel_rfl) (mul08_ev rfl rfl hR.symm rfl _) hK
  · intro i o sz hi ho hA; cases hA
  clear hS
  intro t1 V1 hs hold hout hall hne hS
  replace HS := hs.trans HS
  replace hS := hS.1
  obtain ⟨x36, q36, v36⟩ : ∃ x, t1[36]? = some x ∧ ((· = .agg (vals (bytesN R.val)))) x := hout 2 (by omega) rfl
  replace h3 := (hold 3 (slots_not (by kernel_rfl))).trans h3
  replace h4 := (hold 4 (slots_not (by kernel_rfl))).trans h4
  replace h5 := (hold 5 (slots_not (by kernel_rfl))).trans h5
  clear hold hout hs hall hne
  simp only [List.drop_succ_cons, List.drop_zero]
  refine tl_lit1 32 _ 29 (.tmp 36) rfl rfl 37 rfl (by rw [HS]; decide) (by decide) (by kernel_rfl) (by kernel_rfl) (by kernel_rfl) _ (eval_tmp q36) (V := (· = .agg (vals (bytesN R.val)))) v36 (by_num (bytesN_len _)) hS fun g5 t1 V1' hS' hz hq he => ?_
  replace h3 := (he 3 (by decide)).trans h3
  replace h4 := (he 4 (by decide)).trans h4
  replace h5 := (he 5 (by decide)).trans h5
  replace HS := hz.trans HS
  clear hz he q36 v36
  have h37 := hq
  clear hq
  replace hS : Own w [(w.heap.size, 4, (· = .agg #[.int .i64 5, .int .i64 X, .int .i64 Y, .int .u64 N])), ((w.heap.size + 1), 32, (· = .agg (vals (bytesN n.val)))), ((w.heap.size + 2), 32, (· = .agg (vals (bytesN m.val)))), (g5, 32, (· = .agg (vals (bytesN R.val))))] V1' := hS'
  clear hS'
  refine tl_assign rfl (.tmp 37) rfl 6 rfl (by rw [HS]; decide) _ (eval_tmp h37) fun t1 hz hq he => ?_
  replace h3 := (he 3 (by decide)).trans h3
  replace h4 := (he 4 (by decide)).trans h4
  replace h5 := (he 5 (by decide)).trans h5
  replace h37 := (he 37 (by decide)).trans h37
  replace HS := hz.trans HS
  clear hz he
  have h6 := hq
  clear hq
  refine wpList_nil ?_
  obtain ⟨f, e0, hf⟩ := wash HS
  have f3 := hf 3 _ h3
  have f4 := hf 4 _ h4
  have f5 := hf 5 _ h5
  have f37 := hf 37 _ h37
  have f6 := hf 6 _ h6
  clear hf
  rw [e0.trans (show _ = #[f 0, f 1, f 2, f 3, f 4, f 5, f 6, f 7, f 8, f 9, f 10, f 11, f 12, f 13, f 14, f 15, f 16, f 17, f 18, f 19, f 20, f 21, f 22, f 23, f 24, f 25, f 26, f 27, f 28, f 29, f 30, f 31, f 32, f 33, f 34, f 35, f 36, f 37, f 38, f 39, f 40, f 41, f 42, f 43, f 44, f 45, f 46, f 47, f 48, f 49, f 50, f 51, f 52, f 53, f 54, f 55, f 56, f 57, f 58, f 59, f 60, f 61, f 62, f 63, f 64, f 65, f 66, f 67, f 68, f 69, f 70, f 71, f 72] from by kernel_rfl), f3, f4, f5, f37, f6]
  clear f3 f4 f5 f37 f6
  clear e0
  try dsimp only
  clear h3 h4 h5 h37 h6 hM HS t1 t0 M
  go_wp2_with fail
  exact ⟨rfl, .slice (some ⟨g5, 0, none⟩) 1 1, by kernel_rfl, Fresh.one 3 hS rfl fun _ h => h⟩
set_option maxHeartbeats 2000000 in
set_option maxRecDepth 100000 in
theorem meant_6 (X Y : Int) (N : Nat) (n m : F) (w : World) (_ : N < 18446744073709551616) : Calls Try.prog 45 #[.agg #[.int .i64 6, .int .i64 X, .int .i64 Y, .int .u64 N], .agg (vals (bytesN n.val)), .agg (vals (bytesN m.val))] w (Fresh 32 IsNm [n * Fin.ofNat P (N % 4294967296)] w) := by
  obtain ⟨R, hR⟩ : ∃ R : F, n * Fin.ofNat P (N % 4294967296) = R := ⟨_, rfl⟩
  rw [hR]
  obtain ⟨r, hr⟩ : ∃ r, r = N % 4294967296 := ⟨_, rfl⟩
  have Hr2 : r < 18446744073709551616 := by omega
  have HRr : (((N % 4294967296 : Nat)) : Int) = r := by rw [hr]
  rw [← hr] at hR
  clear hr
  obtain ⟨k, hk⟩ : ∃ k : F, Fin.ofNat P r = k := ⟨_, rfl⟩
  rw [hk] at hR
  have hS := meant_start 6 X Y N n m w
  have HNl := Lib.hid (bytesN_len n.val)
  have HMl := Lib.hid (bytesN_len m.val)
  go_enter Try.func45, Try.ntmps45
  go_wp2_with ((with_reducible refine guard_list ?_); first | (refine held_load 26 _ rfl ?_) | (refine held_load 22 _ rfl ?_) | (refine held_load 68 _ rfl ?_) | (refine held_load 29 _ rfl ?_))
  generalize (((w.alloc (.cells #[.int .i64 6, .int .i64 X, .int .i64 Y, .int .u64 N] 63)).alloc (.cells (vals (bytesN n.val)) 29)).alloc (.cells (vals (bytesN m.val)) 29)) = W0 at hS ⊢
  obtain ⟨M, hM⟩ : ∃ M, M = W0.heap.size := ⟨_, rfl⟩
  refine hide_frame fun t0 HT => ?_
  have HS : t0.size = 73 := by rw [HT]; rfl
  have h3 : t0[3]? = some (.pointer (some ⟨w.heap.size, 0, none⟩)) := by rw [HT]; rfl
  have h4 : t0[4]? = some (.pointer (some ⟨(w.heap.size + 1), 0, none⟩)) := by rw [HT]; rfl
  have h5 : t0[5]? = some (.pointer (some ⟨(w.heap.size + 2), 0, none⟩)) := by rw [HT]; rfl
  clear HT
  refine wp_region_most 6 (fun i => [40, 41, 42, 43, 44, 45].getD i 0) (fun _ => none) (fun i => [(· = .agg (vals (bytesN n.val))), (· = .pointer (some ⟨w.heap.size, 3, none⟩)), (· = .int .u64 N), (· = .int .u64 (r : Nat)), (· = .agg (vals (bytesN k.val))), (· = .agg (vals (bytesN R.val)))].getD i (fun _ => True)) (fun w' => Own w [(w.heap.size, 4, (· = .agg #[.int .i64 6, .int .i64 X, .int .i64 Y, .int .u64 N])), ((w.heap.size + 1), 32, (· = .agg (vals (bytesN n.val)))), ((w.heap.size + 2), 32, (· = .agg (vals (bytesN m.val))))] w' ∧ M ≤ w'.heap.size) M
    (by kernel_rfl) (by kernel_rfl) (slots_apart (by kernel_rfl)) (slots_lie (by rw [HS]; kernel_rfl)) ⟨hS.drew, Nat.le_of_eq hM⟩ (fun w' h => h.2) (fun w1 w2 h b => ⟨h.1.keep b, Nat.le_trans h.2 b.size⟩) ?_ ?_ ?_
  · clear hS
    intro i o hi ho hA
    have hc : i = 0 ∨ i = 1 ∨ i = 2 ∨ i = 3 ∨ i = 4 ∨ i = 5 := by omega
    rcases hc with rfl | rfl | rfl | rfl | rfl | rfl
    · obtain rfl := Option.some.inj ho
      refine ⟨rfl, fun a w' hS hold hin K hK => ?_⟩
      refine if_always rfl ?_
      exact op_ld_own 32 tNum (.tmp 4) rfl rfl _ (eval_tmp ((hold 4 (slots_not (by kernel_rfl))).trans h4)) hS.1 1 rfl hK
    · obtain rfl := Option.some.inj ho
      refine ⟨rfl, fun a w' hS hold hin K hK => ?_⟩
      refine if_always rfl ?_
      exact op_field 63 (.tmp 3) 3 _ (.pointer (some ⟨w.heap.size, 3, none⟩)) rfl rfl (eval_tmp ((hold 3 (slots_not (by kernel_rfl))).trans h3)) (fun w => by kernel_rfl) hK
    · obtain rfl := Option.some.inj ho
      refine ⟨rfl, fun a w' hS hold hin K hK => ?_⟩
      obtain ⟨y1, x1, rfl⟩ := hin 1 rfl (by omega) rfl
      refine if_always rfl ?_
      exact op_cell_own tU64 _ w.heap.size 3 rfl rfl (eval_tmp x1) hS.1 0 _ _ rfl (.int .u64 N) rfl hK
    · obtain rfl := Option.some.inj ho
      refine ⟨rfl, fun a w' hS hold hin K hK => ?_⟩
      obtain ⟨y2, x2, rfl⟩ := hin 2 rfl (by omega) rfl
      refine if_always rfl ?_
      exact op_bin (V := (· = .int .u64 (r : Nat))) _ _ _ _ _ _ _ (.int .u64 (r : Nat)) rfl rfl (eval_tmp x2) rfl (fun w => HRr ▸ rem_4294967296 N w) rfl hK
    · obtain rfl := Option.some.inj ho
      refine ⟨rfl, fun a w' hS hold hin K hK => ?_⟩
      obtain ⟨y3, x3, rfl⟩ := hin 3 rfl (by omega) rfl
      refine if_always rfl ?_
      exact op_fn1 _ _ _ _ rfl rfl (eval_tmp x3) (by intro args w; kernel_rfl) (num_gives (hk ▸ small08_any r _ Hr2) rfl) hK
    · obtain rfl := Option.some.inj ho
      refine ⟨rfl, fun a w' hS hold hin K hK => ?_⟩
      obtain ⟨y0, x0, rfl⟩ := hin 0 rfl (by omega) rfl
      obtain ⟨y4, x4, rfl⟩ := hin 4 rfl (by omega) rfl
      refine if_always rfl ?_
      exact op_fn2 _ _ _ _ _ _ rfl rfl (eval_tmp x0) (eval_tmp x4) (by intro args w; kernel_rfl) (mul08_ev rfl rfl hR.symm rfl _) hK
  · intro i o sz hi ho hA; cases hA
  clear hS
  intro t1 V1 hs hold hout hall hne hS
  replace HS := hs.trans HS
  replace hS := hS.1
  obtain ⟨x45, q45, v45⟩ : ∃ x, t1[45]? = some x ∧ ((· = .agg (vals (bytesN R.val)))) x := hout 5 (by omega) rfl
  replace h3 := (hold 3 (slots_not (by kernel_rfl))).trans h3
  replace h4 := (hold 4 (slots_not (by kernel_rfl))).trans h4
  replace h5 := (hold 5 (slots_not (by kernel_rfl))).trans h5
  clear hold hout hs hall hne
  simp only [List.drop_succ_cons, List.drop_zero]
  refine tl_lit1 32 _ 29 (.tmp 45) rfl rfl 46 rfl (by rw [HS]; decide) (by decide) (by kernel_rfl) (by kernel_rfl) (by kernel_rfl) _ (eval_tmp q45) (V := (· = .agg (vals (bytesN R.val)))) v45 (by_num (bytesN_len _)) hS fun g6 t1 V1' hS' hz hq he => ?_
  replace h3 := (he 3 (by decide)).trans h3
  replace h4 := (he 4 (by decide)).trans h4
  replace h5 := (he 5 (by decide)).trans h5
  replace HS := hz.trans HS
  clear hz he q45 v45
  have h46 := hq
  clear hq
  replace hS : Own w [(w.heap.size, 4, (· = .agg #[.int .i64 6, .int .i64 X, .int .i64 Y, .int .u64 N])), ((w.heap.size + 1), 32, (· = .agg (vals (bytesN n.val)))), ((w.heap.size + 2), 32, (· = .agg (vals (bytesN m.val)))), (g6, 32, (· = .agg (vals (bytesN R.val))))] V1' := hS'
  clear hS'
  refine tl_assign rfl (.tmp 46) rfl 6 rfl (by rw [HS]; decide) _ (eval_tmp h46) fun t1 hz hq he => ?_
  replace h3 := (he 3 (by decide)).trans h3
  replace h4 := (he 4 (by decide)).trans h4
  replace h5 := (he 5 (by decide)).trans h5
  replace h46 := (he 46 (by decide)).trans h46
  replace HS := hz.trans HS
  clear hz he
  have h6 := hq
  clear hq
  refine wpList_nil ?_
  obtain ⟨f, e0, hf⟩ := wash HS
  have f3 := hf 3 _ h3
  have f4 := hf 4 _ h4
  have f5 := hf 5 _ h5
  have f46 := hf 46 _ h46
  have f6 := hf 6 _ h6
  clear hf
  rw [e0.trans (show _ = #[f 0, f 1, f 2, f 3, f 4, f 5, f 6, f 7, f 8, f 9, f 10, f 11, f 12, f 13, f 14, f 15, f 16, f 17, f 18, f 19, f 20, f 21, f 22, f 23, f 24, f 25, f 26, f 27, f 28, f 29, f 30, f 31, f 32, f 33, f 34, f 35, f 36, f 37, f 38, f 39, f 40, f 41, f 42, f 43, f 44, f 45, f 46, f 47, f 48, f 49, f 50, f 51, f 52, f 53, f 54, f 55, f 56, f 57, f 58, f 59, f 60, f 61, f 62, f 63, f 64, f 65, f 66, f 67, f 68, f 69, f 70, f 71, f 72] from by kernel_rfl), f3, f4, f5, f46, f6]
  clear f3 f4 f5 f46 f6
  clear e0
  try dsimp only
  clear h3 h4 h5 h46 h6 hM HS t1 t0 M
  go_wp2_with fail
  exact ⟨rfl, .slice (some ⟨g6, 0, none⟩) 1 1, by kernel_rfl, Fresh.one 3 hS rfl fun _ h => h⟩
set_option maxHeartbeats 2000000 in
set_option maxRecDepth 100000 in
theorem meant_7 (X Y : Int) (N : Nat) (n m : F) (w : World) (_ : N < 18446744073709551616) : Calls Try.prog 45 #[.agg #[.int .i64 7, .int .i64 X, .int .i64 Y, .int .u64 N], .agg (vals (bytesN n.val)), .agg (vals (bytesN m.val))] w (Fresh 32 IsNm [selF (decide ((N : Int) % 2 = 1)) n m] w) := by
  obtain ⟨R, hR⟩ : ∃ R : F, selF (decide ((N : Int) % 2 = 1)) n m = R := ⟨_, rfl⟩
  rw [hR]
  have hS := meant_start 7 X Y N n m w
  have HNl := Lib.hid (bytesN_len n.val)
  have HMl := Lib.hid (bytesN_len m.val)
  go_enter Try.func45, Try.ntmps45
  go_wp2_with ((with_reducible refine guard_list ?_); first | (refine held_load 26 _ rfl ?_) | (refine held_load 22 _ rfl ?_) | (refine held_load 68 _ rfl ?_) | (refine held_load 29 _ rfl ?_))
  change Held (wpList _ _ _ _ _ (((w.alloc (.cells #[.int .i64 7, .int .i64 X, .int .i64 Y, .int .u64 N] 63)).alloc (.cells (vals (bytesN n.val)) 29)).alloc (.cells (vals (bytesN m.val)) 29)))
  generalize (((w.alloc (.cells #[.int .i64 7, .int .i64 X, .int .i64 Y, .int .u64 N] 63)).alloc (.cells (vals (bytesN n.val)) 29)).alloc (.cells (vals (bytesN m.val)) 29)) = W0 at hS ⊢
  obtain ⟨M, hM⟩ : ∃ M, M = W0.heap.size := ⟨_, rfl⟩
  refine hide_held fun t0 HT => ?_
  have HS : t0.size = 73 := by rw [HT]; rfl
  have h3 : t0[3]? = some (.pointer (some ⟨w.heap.size, 0, none⟩)) := by rw [HT]; rfl
  have h4 : t0[4]? = some (.pointer (some ⟨(w.heap.size + 1), 0, none⟩)) := by rw [HT]; rfl
  have h5 : t0[5]? = some (.pointer (some ⟨(w.heap.size + 2), 0, none⟩)) := by rw [HT]; rfl
  refine wp_from_most 5 (fun i => [49, 50, 51, 52, 53].getD i 0) (fun _ => none) (fun i => [(fun _ => True), (· = .int .u64 N), (· = .agg (vals (bytesN n.val))), (· = .agg (vals (bytesN m.val))), (· = .agg (vals (bytesN R.val)))].getD i (fun _ => True)) (fun w' => Own w [(w.heap.size, 4, (· = .agg #[.int .i64 7, .int .i64 X, .int .i64 Y, .int .u64 N])), ((w.heap.size + 1), 32, (· = .agg (vals (bytesN n.val)))), ((w.heap.size + 2), 32, (· = .agg (vals (bytesN m.val))))] w' ∧ M ≤ w'.heap.size) M
    2 (by omega) (by kernel_rfl) ?_ (slots_apart (by kernel_rfl)) (slots_lie (by rw [HS]; kernel_rfl)) ⟨hS, Nat.le_of_eq hM⟩ (fun w' h => h.2) (fun w1 w2 h b => ⟨h.1.keep b, Nat.le_trans h.2 b.size⟩) ?_ ?_ ?_
  · intro j hj _
    have hc : j = 0 ∨ j = 1 := by omega
    rcases hc with rfl | rfl
    · exact ⟨rfl, _, by rw [HT]; rfl, trivial⟩
    · exact ⟨rfl, _, by rw [HT]; rfl, rfl⟩
  · clear hS
    intro i o h0i hi ho hA
    have hc : i = 2 ∨ i = 3 ∨ i = 4 := by omega
    rcases hc with rfl | rfl | rfl
    · obtain rfl := Option.some.inj ho
      refine ⟨rfl, fun a w' hS hold hin K hK => ?_⟩
      refine if_always rfl ?_
      exact op_ld_own 32 tNum (.tmp 4) rfl rfl _ (eval_tmp ((hold 4 (slots_not (by kernel_rfl))).trans h4)) hS.1 1 rfl hK
    · obtain rfl := Option.some.inj ho
      refine ⟨rfl, fun a w' hS hold hin K hK => ?_⟩
      refine if_always rfl ?_
      exact op_ld_own 32 tNum (.tmp 5) rfl rfl _ (eval_tmp ((hold 5 (slots_not (by kernel_rfl))).trans h5)) hS.1 2 rfl hK
    · obtain rfl := Option.some.inj ho
      refine ⟨rfl, fun a w' hS hold hin K hK => ?_⟩
      obtain ⟨y1, x1, rfl⟩ := hin 1 rfl (by omega) rfl
      obtain ⟨y2, x2, rfl⟩ := hin 2 rfl (by omega) rfl
      obtain ⟨y3, x3, rfl⟩ := hin 3 rfl (by omega) rfl
      refine if_always rfl ?_
      exact op_fn3 _ _ _ _ _ _ _ _ rfl rfl (eval_tmp x1) (eval_tmp x2) (eval_tmp x3) (by intro args w; kernel_rfl) (pick08_any N n m R _ (by omega) ((sel_if N n m).trans hR)) hK
  · intro i o sz h0i hi ho hA; cases hA
  clear hS
  intro t1 V1 hs hold hout hall hne hS
  replace HS := hs.trans HS
  replace hS := hS.1
  obtain ⟨x53, q53, v53⟩ : ∃ x, t1[53]? = some x ∧ ((· = .agg (vals (bytesN R.val)))) x := hout 4 (by omega) rfl
  replace h3 := (hold 3 (slots_not (by kernel_rfl))).trans h3
  replace h4 := (hold 4 (slots_not (by kernel_rfl))).trans h4
  replace h5 := (hold 5 (slots_not (by kernel_rfl))).trans h5
  clear hold hout hs hall hne
  simp only [List.drop_succ_cons, List.drop_zero]
  refine tl_lit1 32 _ 29 (.tmp 53) rfl rfl 54 rfl (by rw [HS]; decide) (by decide) (by kernel_rfl) (by kernel_rfl) (by kernel_rfl) _ (eval_tmp q53) (V := (· = .agg (vals (bytesN R.val)))) v53 (by_num (bytesN_len _)) hS fun g7 t1 V1' hS' hz hq he => ?_
  replace h3 := (he 3 (by decide)).trans h3
  replace h4 := (he 4 (by decide)).trans h4
  replace h5 := (he 5 (by decide)).trans h5
  replace HS := hz.trans HS
  clear hz he q53 v53
  have h54 := hq
  clear hq
  replace hS : Own w [(w.heap.size, 4, (· = .agg #[.int .i64 7, .int .i64 X, .int .i64 Y, .int .u64 N])), ((w.heap.size + 1), 32, (· = .agg (vals (bytesN n.val)))), ((w.heap.size + 2), 32, (· = .agg (vals (bytesN m.val)))), (g7, 32, (· = .agg (vals (bytesN R.val))))] V1' := hS'
  clear hS'
  refine tl_assign rfl (.tmp 54) rfl 6 rfl (by rw [HS]; decide) _ (eval_tmp h54) fun t1 hz hq he => ?_
  replace h3 := (he 3 (by decide)).trans h3
  replace h4 := (he 4 (by decide)).trans h4
  replace h5 := (he 5 (by decide)).trans h5
  replace h54 := (he 54 (by decide)).trans h54
  replace HS := hz.trans HS
  clear hz he
  have h6 := hq
  clear hq
  refine wpList_nil ?_
  clear HT
  obtain ⟨f, e0, hf⟩ := wash HS
  have f3 := hf 3 _ h3
  have f4 := hf 4 _ h4
  have f5 := hf 5 _ h5
  have f54 := hf 54 _ h54
  have f6 := hf 6 _ h6
  clear hf
  rw [e0.trans (show _ = #[f 0, f 1, f 2, f 3, f 4, f 5, f 6, f 7, f 8, f 9, f 10, f 11, f 12, f 13, f 14, f 15, f 16, f 17, f 18, f 19, f 20, f 21, f 22, f 23, f 24, f 25, f 26, f 27, f 28, f 29, f 30, f 31, f 32, f 33, f 34, f 35, f 36, f 37, f 38, f 39, f 40, f 41, f 42, f 43, f 44, f 45, f 46, f 47, f 48, f 49, f 50, f 51, f 52, f 53, f 54, f 55, f 56, f 57, f 58, f 59, f 60, f 61, f 62, f 63, f 64, f 65, f 66, f 67, f 68, f 69, f 70, f 71, f 72] from by kernel_rfl), f3, f4, f5, f54, f6]
  clear f3 f4 f5 f54 f6
  clear e0
  try dsimp only
  clear h3 h4 h5 h54 h6 hM HS t1 t0 M
  go_wp2_with fail
  exact ⟨rfl, .slice (some ⟨g7, 0, none⟩) 1 1, by kernel_rfl, Fresh.one 3 hS rfl fun _ h => h⟩
set_option maxHeartbeats 2000000 in
set_option maxRecDepth 100000 in
theorem meant_9 (X Y : Int) (N : Nat) (n m : F) (w : World) (_ : N < 18446744073709551616) : Calls Try.prog 45 #[.agg #[.int .i64 9, .int .i64 X, .int .i64 Y, .int .u64 N], .agg (vals (bytesN n.val)), .agg (vals (bytesN m.val))] w (Fresh 32 IsNm [inv n] w) := by
  obtain ⟨R, hR⟩ : ∃ R : F, inv n = R := ⟨_, rfl⟩
  rw [hR]
  have hS := meant_start 9 X Y N n m w
  have HNl := Lib.hid (bytesN_len n.val)
  have HMl := Lib.hid (bytesN_len m.val)
  go_enter Try.func45, Try.ntmps45
  go_wp2_with ((with_reducible refine guard_list ?_); first | (refine held_load 26 _ rfl ?_) | (refine held_load 22 _ rfl ?_) | (refine held_load 68 _ rfl ?_) | (refine held_load 29 _ rfl ?_))
  change Held (wpList _ _ _ _ _ (((w.alloc (.cells #[.int .i64 9, .int .i64 X, .int .i64 Y, .int .u64 N] 63)).alloc (.cells (vals (bytesN n.val)) 29)).alloc (.cells (vals (bytesN m.val)) 29)))
  generalize (((w.alloc (.cells #[.int .i64 9, .int .i64 X, .int .i64 Y, .int .u64 N] 63)).alloc (.cells (vals (bytesN n.val)) 29)).alloc (.cells (vals (bytesN m.val)) 29)) = W0 at hS ⊢
  obtain ⟨M, hM⟩ : ∃ M, M = W0.heap.size := ⟨_, rfl⟩
  refine hide_held fun t0 HT => ?_
  have HS : t0.size = 73 := by rw [HT]; rfl
  have h3 : t0[3]? = some (.pointer (some ⟨w.heap.size, 0, none⟩)) := by rw [HT]; rfl
  have h4 : t0[4]? = some (.pointer (some ⟨(w.heap.size + 1), 0, none⟩)) := by rw [HT]; rfl
  have h5 : t0[5]? = some (.pointer (some ⟨(w.heap.size + 2), 0, none⟩)) := by rw [HT]; rfl
  clear HT
  refine wp_list_most 2 (fun i => [70, 71].getD i 0) (fun _ => none) (fun i => [(· = .agg (vals (bytesN n.val))), (· = .agg (vals (bytesN R.val)))].getD i (fun _ => True)) (fun w' => Own w [(w.heap.size, 4, (· = .agg #[.int .i64 9, .int .i64 X, .int .i64 Y, .int .u64 N])), ((w.heap.size + 1), 32, (· = .agg (vals (bytesN n.val)))), ((w.heap.size + 2), 32, (· = .agg (vals (bytesN m.val))))] w' ∧ M ≤ w'.heap.size) M
    (by kernel_rfl) (slots_apart (by kernel_rfl)) (slots_lie (by rw [HS]; kernel_rfl)) ⟨hS, Nat.le_of_eq hM⟩ (fun w' h => h.2) (fun w1 w2 h b => ⟨h.1.keep b, Nat.le_trans h.2 b.size⟩) ?_ ?_ ?_
  · clear hS
    intro i o hi ho hA
    have hc : i = 0 ∨ i = 1 := by omega
    rcases hc with rfl | rfl
    · obtain rfl := Option.some.inj ho
      refine ⟨rfl, fun a w' hS hold hin K hK => ?_⟩
      refine if_always rfl ?_
      exact op_ld_own 32 tNum (.tmp 4) rfl rfl _ (eval_tmp ((hold 4 (slots_not (by kernel_rfl))).trans h4)) hS.1 1 rfl hK
    · obtain rfl := Option.some.inj ho
      refine ⟨rfl, fun a w' hS hold hin K hK => ?_⟩
      obtain ⟨y0, x0, rfl⟩ := hin 0 rfl (by omega) rfl
      refine if_always rfl ?_
      exact op_fn1 _ _ _ _ rfl rfl (eval_tmp x0) (by intro args w; kernel_rfl) (invert08_ev rfl hR.symm rfl _) hK
  · intro i o sz hi ho hA; cases hA
  clear hS
  intro t1 V1 hs hold hout hall hne hS
  replace HS := hs.trans HS
  replace hS := hS.1
  obtain ⟨x71, q71, v71⟩ : ∃ x, t1[71]? = some x ∧ ((· = .agg (vals (bytesN R.val)))) x := hout 1 (by omega) rfl
  replace h3 := (hold 3 (slots_not (by kernel_rfl))).trans h3
  replace h4 := (hold 4 (slots_not (by kernel_rfl))).trans h4
  replace h5 := (hold 5 (slots_not (by kernel_rfl))).trans h5
  clear hold hout hs hall hne
  simp only [List.drop_succ_cons, List.drop_zero]
  refine tl_lit1 32 _ 29 (.tmp 71) rfl rfl 72 rfl (by rw [HS]; decide) (by decide) (by kernel_rfl) (by kernel_rfl) (by kernel_rfl) _ (eval_tmp q71) (V := (· = .agg (vals (bytesN R.val)))) v71 (by_num (bytesN_len _)) hS fun g9 t1 V1' hS' hz hq he => ?_
  replace h3 := (he 3 (by decide)).trans h3
  replace h4 := (he 4 (by decide)).trans h4
  replace h5 := (he 5 (by decide)).trans h5
  replace HS := hz.trans HS
  clear hz he q71 v71
  have h72 := hq
  clear hq
  replace hS : Own w [(w.heap.size, 4, (· = .agg #[.int .i64 9, .int .i64 X, .int .i64 Y, .int .u64 N])), ((w.heap.size + 1), 32, (· = .agg (vals (bytesN n.val)))), ((w.heap.size + 2), 32, (· = .agg (vals (bytesN m.val)))), (g9, 32, (· = .agg (vals (bytesN R.val))))] V1' := hS'
  clear hS'
  refine tl_assign rfl (.tmp 72) rfl 6 rfl (by rw [HS]; decide) _ (eval_tmp h72) fun t1 hz hq he => ?_
  replace h3 := (he 3 (by decide)).trans h3
  replace h4 := (he 4 (by decide)).trans h4
  replace h5 := (he 5 (by decide)).trans h5
  replace h72 := (he 72 (by decide)).trans h72
  replace HS := hz.trans HS
  clear hz he
  have h6 := hq
  clear hq
  refine wpList_nil ?_
  obtain ⟨f, e0, hf⟩ := wash HS
  have f3 := hf 3 _ h3
  have f4 := hf 4 _ h4
  have f5 := hf 5 _ h5
  have f72 := hf 72 _ h72
  have f6 := hf 6 _ h6
  clear hf
  rw [e0.trans (show _ = #[f 0, f 1, f 2, f 3, f 4, f 5, f 6, f 7, f 8, f 9, f 10, f 11, f 12, f 13, f 14, f 15, f 16, f 17, f 18, f 19, f 20, f 21, f 22, f 23, f 24, f 25, f 26, f 27, f 28, f 29, f 30, f 31, f 32, f 33, f 34, f 35, f 36, f 37, f 38, f 39, f 40, f 41, f 42, f 43, f 44, f 45, f 46, f 47, f 48, f 49, f 50, f 51, f 52, f 53, f 54, f 55, f 56, f 57, f 58, f 59, f 60, f 61, f 62, f 63, f 64, f 65, f 66, f 67, f 68, f 69, f 70, f 71, f 72] from by kernel_rfl), f3, f4, f5, f72, f6]
  clear f3 f4 f5 f72 f6
  clear e0
  try dsimp only
  clear h3 h4 h5 h72 h6 hM HS t1 t0 M
  go_wp2_with fail
  exact ⟨rfl, .slice (some ⟨g9, 0, none⟩) 1 1, by kernel_rfl, Fresh.one 3 hS rfl fun _ h => h⟩
set_option maxHeartbeats 2000000 in
set_option maxRecDepth 100000 in
theorem meant_8 (X Y : Int) (N : Nat) (n m : F) (w : World) (_ : N < 18446744073709551616) : Calls Try.prog 45 #[.agg #[.int .i64 8, .int .i64 X, .int .i64 Y, .int .u64 N], .agg (vals (bytesN n.val)), .agg (vals (bytesN m.val))] w (Fresh 32 IsNm [selF (decide ((N : Int) % 2 = 1)) m n, selF (decide ((N : Int) % 2 = 1)) n m] w) := by
  obtain ⟨Ra, hRa⟩ : ∃ R : F, selF (decide ((N : Int) % 2 = 1)) m n = R := ⟨_, rfl⟩
  obtain ⟨Rb, hRb⟩ : ∃ R : F, selF (decide ((N : Int) % 2 = 1)) n m = R := ⟨_, rfl⟩
  rw [hRa, hRb]
  have hS := meant_start 8 X Y N n m w
  have HNl := Lib.hid (bytesN_len n.val)
  have HMl := Lib.hid (bytesN_len m.val)
  go_enter Try.func45, Try.ntmps45
  go_wp2_with ((with_reducible refine guard_list ?_); first | (refine held_load 26 _ rfl ?_) | (refine held_load 22 _ rfl ?_) | (refine held_load 68 _ rfl ?_) | (refine held_load 29 _ rfl ?_))
  generalize (((w.alloc (.cells #[.int .i64 8, .int .i64 X, .int .i64 Y, .int .u64 N] 63)).alloc (.cells (vals (bytesN n.val)) 29)).alloc (.cells (vals (bytesN m.val)) 29)) = W0 at hS ⊢
  obtain ⟨M, hM⟩ : ∃ M, M = W0.heap.size := ⟨_, rfl⟩
  refine hide_frame fun t0 HT => ?_
  have HS : t0.size = 73 := by rw [HT]; rfl
  have h3 : t0[3]? = some (.pointer (some ⟨w.heap.size, 0, none⟩)) := by rw [HT]; rfl
  have h4 : t0[4]? = some (.pointer (some ⟨(w.heap.size + 1), 0, none⟩)) := by rw [HT]; rfl
  have h5 : t0[5]? = some (.pointer (some ⟨(w.heap.size + 2), 0, none⟩)) := by rw [HT]; rfl
  clear HT
  refine wp_region_most 10 (fun i => [57, 58, 59, 60, 61, 62, 63, 64, 65, 66].getD i 0) (fun _ => none) (fun i => [(· = .pointer (some ⟨w.heap.size, 3, none⟩)), (· = .int .u64 N), (· = .agg (vals (bytesN m.val))), (· = .agg (vals (bytesN n.val))), (· = .agg (vals (bytesN Ra.val))), (· = .pointer (some ⟨w.heap.size, 3, none⟩)), (· = .int .u64 N), (· = .agg (vals (bytesN n.val))), (· = .agg (vals (bytesN m.val))), (· = .agg (vals (bytesN Rb.val)))].getD i (fun _ => True)) (fun w' => Own w [(w.heap.size, 4, (· = .agg #[.int .i64 8, .int .i64 X, .int .i64 Y, .int .u64 N])), ((w.heap.size + 1), 32, (· = .agg (vals (bytesN n.val)))), ((w.heap.size + 2), 32, (· = .agg (vals (bytesN m.val))))] w' ∧ M ≤ w'.heap.size) M
    (by kernel_rfl) (by kernel_rfl) (slots_apart (by kernel_rfl)) (slots_lie (by rw [HS]; kernel_rfl)) ⟨hS.drew, Nat.le_of_eq hM⟩ (fun w' h => h.2) (fun w1 w2 h b => ⟨h.1.keep b, Nat.le_trans h.2 b.size⟩) ?_ ?_ ?_
  · clear hS
    intro i o hi ho hA
    have hc : i = 0 ∨ i = 1 ∨ i = 2 ∨ i = 3 ∨ i = 4 ∨ i = 5 ∨ i = 6 ∨ i = 7 ∨ i = 8 ∨ i = 9 := by omega
    rcases hc with rfl | rfl | rfl | rfl | rfl | rfl | rfl | rfl | rfl | rfl
    · obtain rfl := Option.some.inj ho
      refine ⟨rfl, fun a w' hS hold hin K hK => ?_⟩
      refine if_always rfl ?_
      exact op_field 63 (.tmp 3) 3 _ (.pointer (some ⟨w.heap.size, 3, none⟩)) rfl rfl (eval_tmp ((hold 3 (slots_not (by kernel_rfl))).trans h3)) (fun w => by kernel_rfl) hK
    · obtain rfl := Option.some.inj ho
      refine ⟨rfl, fun a w' hS hold hin K hK => ?_⟩
      obtain ⟨y0, x0, rfl⟩ := hin 0 rfl (by omega) rfl
      refine if_always rfl ?_
      exact op_cell_own tU64 _ w.heap.size 3 rfl rfl (eval_tmp x0) hS.1 0 _ _ rfl (.int .u64 N) rfl hK
    · obtain rfl := Option.some.inj ho
      refine ⟨rfl, fun a w' hS hold hin K hK => ?_⟩
      refine if_always rfl ?_
      exact op_ld_own 32 tNum (.tmp 5) rfl rfl _ (eval_tmp ((hold 5 (slots_not (by kernel_rfl))).trans h5)) hS.1 2 rfl hK
    · obtain rfl := Option.some.inj ho
      refine ⟨rfl, fun a w' hS hold hin K hK => ?_⟩
      refine if_always rfl ?_
      exact op_ld_own 32 tNum (.tmp 4) rfl rfl _ (eval_tmp ((hold 4 (slots_not (by kernel_rfl))).trans h4)) hS.1 1 rfl hK
    · obtain rfl := Option.some.inj ho
      refine ⟨rfl, fun a w' hS hold hin K hK => ?_⟩
      obtain ⟨y1, x1, rfl⟩ := hin 1 rfl (by omega) rfl
      obtain ⟨y2, x2, rfl⟩ := hin 2 rfl (by omega) rfl
      obtain ⟨y3, x3, rfl⟩ := hin 3 rfl (by omega) rfl
      refine if_always rfl ?_
      exact op_fn3 _ _ _ _ _ _ _ _ rfl rfl (eval_tmp x1) (eval_tmp x2) (eval_tmp x3) (by intro args w; kernel_rfl) (pick08_any N m n Ra _ (by omega) ((sel_if N m n).trans hRa)) hK
    · obtain rfl := Option.some.inj ho
      refine ⟨rfl, fun a w' hS hold hin K hK => ?_⟩
      refine if_always rfl ?_
      exact op_field 63 (.tmp 3) 3 _ (.pointer (some ⟨w.heap.size, 3, none⟩)) rfl rfl (eval_tmp ((hold 3 (slots_not (by kernel_rfl))).trans h3)) (fun w => by kernel_rfl) hK
    · obtain rfl := Option.some.inj ho
      refine ⟨rfl, fun a w' hS hold hin K hK => ?_⟩
      obtain ⟨y5, x5, rfl⟩ := hin 5 rfl (by omega) rfl
      refine if_always rfl ?_
      exact op_cell_own tU64 _ w.heap.size 3 rfl rfl (eval_tmp x5) hS.1 0 _ _ rfl (.int .u64 N) rfl hK
    · obtain rfl := Option.some.inj ho
      refine ⟨rfl, fun a w' hS hold hin K hK => ?_⟩
      refine if_always rfl ?_
      exact op_ld_own 32 tNum (.tmp 4) rfl rfl _ (eval_tmp ((hold 4 (slots_not (by kernel_rfl))).trans h4)) hS.1 1 rfl hK
    · obtain rfl := Option.some.inj ho
      refine ⟨rfl, fun a w' hS hold hin K hK => ?_⟩
      refine if_always rfl ?_
      exact op_ld_own 32 tNum (.tmp 5) rfl rfl _ (eval_tmp ((hold 5 (slots_not (by kernel_rfl))).trans h5)) hS.1 2 rfl hK
    · obtain rfl := Option.some.inj ho
      refine ⟨rfl, fun a w' hS hold hin K hK => ?_⟩
      obtain ⟨y6, x6, rfl⟩ := hin 6 rfl (by omega) rfl
      obtain ⟨y7, x7, rfl⟩ := hin 7 rfl (by omega) rfl
      obtain ⟨y8, x8, rfl⟩ := hin 8 rfl (by omega) rfl
      refine if_always rfl ?_
      exact op_fn3 _ _ _ _ _ _ _ _ rfl rfl (eval_tmp x6) (eval_tmp x7) (eval_tmp x8) (by intro args w; kernel_rfl) (pick08_any N n m Rb _ (by omega) ((sel_if N n m).trans hRb)) hK
  · intro i o sz hi ho hA; cases hA
  clear hS
  intro t1 V1 hs hold hout hall hne hS
  replace HS := hs.trans HS
  replace hS := hS.1
  obtain ⟨x61, q61, v61⟩ : ∃ x, t1[61]? = some x ∧ ((· = .agg (vals (bytesN Ra.val)))) x := hout 4 (by omega) rfl
  obtain ⟨x66, q66, v66⟩ : ∃ x, t1[66]? = some x ∧ ((· = .agg (vals (bytesN Rb.val)))) x := hout 9 (by omega) rfl
  replace h3 := (hold 3 (slots_not (by kernel_rfl))).trans h3
  replace h4 := (hold 4 (slots_not (by kernel_rfl))).trans h4
  replace h5 := (hold 5 (slots_not (by kernel_rfl))).trans h5
  clear hold hout hs hall hne
  simp only [List.drop_succ_cons, List.drop_zero]
  obtain ⟨c61, ec61, zc61, oc61⟩ := (by_num (bytesN_len _)) _ rfl
  rw [v61, ec61] at q61
  obtain ⟨c66, ec66, zc66, oc66⟩ := (by_num (bytesN_len _)) _ rfl
  rw [v66, ec66] at q66
  refine tl_lit2 32 _ 29 (.tmp 61) (.tmp 66) rfl rfl 67 rfl (by rw [HS]; decide) (by decide) (by kernel_rfl) (by kernel_rfl) (by kernel_rfl) c61 c66 (eval_tmp q61) (eval_tmp q66) zc61 zc66 hS fun g8 t1 V1' hS' hz hq he => ?_
  replace h3 := (he 3 (by decide)).trans h3
  replace h4 := (he 4 (by decide)).trans h4
  replace h5 := (he 5 (by decide)).trans h5
  replace HS := hz.trans HS
  clear hz he q61 q66
  have h67 := hq
  clear hq
  replace hS : Own w [(w.heap.size, 4, (· = .agg #[.int .i64 8, .int .i64 X, .int .i64 Y, .int .u64 N])), ((w.heap.size + 1), 32, (· = .agg (vals (bytesN n.val)))), ((w.heap.size + 2), 32, (· = .agg (vals (bytesN m.val)))), (g8, 2 * 32, (· = .agg (c61 ++ c66)))] V1' := hS'
  clear hS'
  refine tl_assign rfl (.tmp 67) rfl 6 rfl (by rw [HS]; decide) _ (eval_tmp h67) fun t1 hz hq he => ?_
  replace h3 := (he 3 (by decide)).trans h3
  replace h4 := (he 4 (by decide)).trans h4
  replace h5 := (he 5 (by decide)).trans h5
  replace h67 := (he 67 (by decide)).trans h67
  replace HS := hz.trans HS
  clear hz he
  have h6 := hq
  clear hq
  refine wpList_nil ?_
  obtain ⟨f, e0, hf⟩ := wash HS
  have f3 := hf 3 _ h3
  have f4 := hf 4 _ h4
  have f5 := hf 5 _ h5
  have f67 := hf 67 _ h67
  have f6 := hf 6 _ h6
  clear hf
  rw [e0.trans (show _ = #[f 0, f 1, f 2, f 3, f 4, f 5, f 6, f 7, f 8, f 9, f 10, f 11, f 12, f 13, f 14, f 15, f 16, f 17, f 18, f 19, f 20, f 21, f 22, f 23, f 24, f 25, f 26, f 27, f 28, f 29, f 30, f 31, f 32, f 33, f 34, f 35, f 36, f 37, f 38, f 39, f 40, f 41, f 42, f 43, f 44, f 45, f 46, f 47, f 48, f 49, f 50, f 51, f 52, f 53, f 54, f 55, f 56, f 57, f 58, f 59, f 60, f 61, f 62, f 63, f 64, f 65, f 66, f 67, f 68, f 69, f 70, f 71, f 72] from by kernel_rfl), f3, f4, f5, f67, f6]
  clear f3 f4 f5 f67 f6
  clear e0
  try dsimp only
  clear h3 h4 h5 h67 h6 hM HS t1 t0 M
  have z61 : c61 = vals (bytesN Ra.val) := by injection ec61 with e; exact e.symm
  have z66 : c66 = vals (bytesN Rb.val) := by injection ec66 with e; exact e.symm
  subst z61; subst z66
  go_wp2_with fail
  exact ⟨rfl, .slice (some ⟨g8, 0, none⟩) 2 2, by kernel_rfl, Fresh.two 3 hS rfl zc61 zc66 rfl rfl⟩
set_option maxHeartbeats 2000000 in
set_option maxRecDepth 100000 in
theorem meant_0 (D X Y : Int) (N : Nat) (h1 : D ≠ 1) (h2 : D ≠ 2) (h3 : D ≠ 3) (h4 : D ≠ 4) (h5 : D ≠ 5) (h6 : D ≠ 6) (h7 : D ≠ 7) (h8 : D ≠ 8) (h9 : D ≠ 9) (n m : F) (w : World) : Calls Try.prog 45 #[.agg #[.int .i64 D, .int .i64 X, .int .i64 Y, .int .u64 N], .agg (vals (bytesN n.val)), .agg (vals (bytesN m.val))] w (Fresh 32 IsNm [] w) := by
  have hbel := (meant_start D X Y N n m w).1
  go_enter Try.func45, Try.ntmps45
  go_wp2_with fail
  exact ⟨rfl, .slice none 0 0, by kernel_rfl, hbel, .inl ⟨rfl, rfl⟩⟩
/-- The new numbers of a step. -/
def plays (D : Int) (N : Nat) (n m : F) : List F :=
  if D = 1 then [n + m]
  else if D = 2 then [n - m]
  else if D = 3 then [0 - n]
  else if D = 4 then [n * m]
  else if D = 5 then [n * n]
  else if D = 6 then [n * Fin.ofNat P (N % 4294967296)]
  else if D = 7 then [selF (decide ((N : Int) % 2 = 1)) n m]
  else if D = 8 then [selF (decide ((N : Int) % 2 = 1)) m n, selF (decide ((N : Int) % 2 = 1)) n m]
  else if D = 9 then [inv n]
  else []
set_option maxRecDepth 100000 in
theorem made_any (D X Y : Int) (N : Nat) (n m : F) (w : World) (hN : N < 18446744073709551616) {x y : Value} (hx : IsEl n x) (hy : IsEl m y) : Calls Try.prog 44 #[.agg #[.int .i64 D, .int .i64 X, .int .i64 Y, .int .u64 N], x, y] w (Fresh 5 IsEl (plays D N n m) w) := by
  unfold plays
  by_cases h1 : D = 1
  · subst h1
    simp only [Int.reduceEq, if_true, if_false]
    have HN : (0 : Int) ≤ N ∧ (N : Int) < 18446744073709551616 := ⟨by omega, by omega⟩
    exact made_1 X Y N n m w HN hx hy
  by_cases h2 : D = 2
  · subst h2
    simp only [Int.reduceEq, if_true, if_false]
    have HN : (0 : Int) ≤ N ∧ (N : Int) < 18446744073709551616 := ⟨by omega, by omega⟩
    exact made_2 X Y N n m w HN hx hy
  by_cases h3 : D = 3
  · subst h3
    simp only [Int.reduceEq, if_true, if_false]
    have HN : (0 : Int) ≤ N ∧ (N : Int) < 18446744073709551616 := ⟨by omega, by omega⟩
    exact made_3 X Y N n m w HN hx hy
  by_cases h4 : D = 4
  · subst h4
    simp only [Int.reduceEq, if_true, if_false]
    have HN : (0 : Int) ≤ N ∧ (N : Int) < 18446744073709551616 := ⟨by omega, by omega⟩
    exact made_4 X Y N n m w HN hx hy
  by_cases h5 : D = 5
  · subst h5
    simp only [Int.reduceEq, if_true, if_false]
    have HN : (0 : Int) ≤ N ∧ (N : Int) < 18446744073709551616 := ⟨by omega, by omega⟩
    exact made_5 X Y N n m w HN hx hy
  by_cases h6 : D = 6
  · subst h6
    simp only [Int.reduceEq, if_true, if_false]
    have HN : (0 : Int) ≤ N ∧ (N : Int) < 18446744073709551616 := ⟨by omega, by omega⟩
    have e : ((N : Int) % 4294967296).toNat = N % 4294967296 := by omega
    rw [← e]
    exact made_6 X Y N n m w HN hx hy
  by_cases h7 : D = 7
  · subst h7
    simp only [Int.reduceEq, if_true, if_false]
    have HN : (0 : Int) ≤ N ∧ (N : Int) < 18446744073709551616 := ⟨by omega, by omega⟩
    exact made_7 X Y N n m w HN hx hy
  by_cases h8 : D = 8
  · subst h8
    simp only [Int.reduceEq, if_true, if_false]
    have HN : (0 : Int) ≤ N ∧ (N : Int) < 18446744073709551616 := ⟨by omega, by omega⟩
    exact made_8 X Y N n m w HN hx hy
  by_cases h9 : D = 9
  · subst h9
    simp only [Int.reduceEq, if_true, if_false]
    have HN : (0 : Int) ≤ N ∧ (N : Int) < 18446744073709551616 := ⟨by omega, by omega⟩
    exact made_9 X Y N n m w HN hx hy
  rw [if_neg h1, if_neg h2, if_neg h3, if_neg h4, if_neg h5, if_neg h6, if_neg h7, if_neg h8, if_neg h9]
  exact made_0 D X Y N h1 h2 h3 h4 h5 h6 h7 h8 h9 n m w hx hy
set_option maxRecDepth 100000 in
theorem meant_any (D X Y : Int) (N : Nat) (n m : F) (w : World) (hN : N < 18446744073709551616) : Calls Try.prog 45 #[.agg #[.int .i64 D, .int .i64 X, .int .i64 Y, .int .u64 N], .agg (vals (bytesN n.val)), .agg (vals (bytesN m.val))] w (Fresh 32 IsNm (plays D N n m) w) := by
  unfold plays
  by_cases h1 : D = 1
  · subst h1
    simp only [Int.reduceEq, if_true, if_false]
    exact meant_1 X Y N n m w hN
  by_cases h2 : D = 2
  · subst h2
    simp only [Int.reduceEq, if_true, if_false]
    exact meant_2 X Y N n m w hN
  by_cases h3 : D = 3
  · subst h3
    simp only [Int.reduceEq, if_true, if_false]
    exact meant_3 X Y N n m w hN
  by_cases h4 : D = 4
  · subst h4
    simp only [Int.reduceEq, if_true, if_false]
    exact meant_4 X Y N n m w hN
  by_cases h5 : D = 5
  · subst h5
    simp only [Int.reduceEq, if_true, if_false]
    exact meant_5 X Y N n m w hN
  by_cases h6 : D = 6
  · subst h6
    simp only [Int.reduceEq, if_true, if_false]
    exact meant_6 X Y N n m w hN
  by_cases h7 : D = 7
  · subst h7
    simp only [Int.reduceEq, if_true, if_false]
    exact meant_7 X Y N n m w hN
  by_cases h8 : D = 8
  · subst h8
    simp only [Int.reduceEq, if_true, if_false]
    exact meant_8 X Y N n m w hN
  by_cases h9 : D = 9
  · subst h9
    simp only [Int.reduceEq, if_true, if_false]
    exact meant_9 X Y N n m w hN
  rw [if_neg h1, if_neg h2, if_neg h3, if_neg h4, if_neg h5, if_neg h6, if_neg h7, if_neg h8, if_neg h9]
  exact meant_0 D X Y N h1 h2 h3 h4 h5 h6 h7 h8 h9 n m w
end Go.Proofs.Ytciakfhjjnmeeaa
