/- Contracts of the reference of layer 8 over rows of bytes, for regions met operation by operation. -/
import Derived.Test.YtciakfhjjnmeeaaOpsG
import Derived.Test.YtciakfhjjnmeeaaRefF
namespace Go.Proofs.Ytciakfhjjnmeeaa
open Go.RowKit Nt

theorem op_ld_nm {o : Oper} {a : Act} {w : World} {Q : Exit → Act → World → Prop} {l : List Int} {d : Nat} {K : Act → World → Prop} (x : Operand) (ho : o.op = .load 29 x) (hd : o.dst = some d)
    (g : Nat) (hx : a.eval x = .pointer (some ⟨g, 0, none⟩)) (h : BytesAt l g w) (hl : l.length = 32) (hK : ∀ x w', x = .agg (vals l) → Below w.heap.size w w' → K (a.put (some d) x) w') : o.wp Try.prog a w K Q := by
  obtain ⟨t, h1⟩ := h
  exact op_ld (V := (· = .agg (vals l))) _ x ho hd g hx (vals l) t h1 32 tNum (by rw [vals_size, hl]) rfl hK
theorem st_nm {ops : Array Oper} {rest : List Oper} {o : Oper} {a : Act} {w : World} {Q : Exit → Act → World → Prop} {l : List Int} (hgd : o.guard = none) (x y : Operand) (ho : o.op = .store 29 x y) (hd : o.dst = none)
    (g : Nat) (v : Value) (hx : a.eval x = .pointer (some ⟨g, 0, none⟩)) (hy : a.eval y = v) (hv : v = .agg (vals l)) (hl : l.length = 32) (hr : RowAt 32 g w)
    (h : ∀ w', BytesAt l g w' → Put g w w' → wpList Try.prog ops Q rest a w') : wpList Try.prog ops Q (o :: rest) a w := by
  subst hv
  obtain ⟨cs, t, h1, h2⟩ := hr
  refine st_row hgd _ x y ho g _ hx hy t cs h1 32 tNum (by rw [vals_size, hl]) h2 (vals_one _) ?_
  rw [hd]
  exact h _ ⟨t, row_put h1⟩ ⟨fun k hk => setRow_other w g k _ hk, below_setRow (Below.refl _ _) (Nat.le_refl _) _⟩

theorem num_gives {n : F} {V : Nat} {f : FuncId} {args : Array Value} {w : World} (h : Calls Try.prog f args w (NumOut n w)) (hV : n.val = V) : Calls Try.prog f args w (Gives (· = .agg (vals (bytesN V))) w) :=
  h.mono fun _ _ ⟨e1, e2⟩ => ⟨_, e1, (by subst hV; rfl), e2⟩
theorem of08_ev (l : List Int) (hl : l.length = 32) (hb : Byt l) {n : F} (h : numF l = n) {V : Nat} (hV : n.val = V) (w : World) : Calls Try.prog 21 #[.agg (vals l)] w (Gives (· = .agg (vals (bytesN V))) w) := by
  subst h; exact num_gives (of08_any l w hl hb) hV
theorem power08_ev {n m : F} {N V R : Nat} (hN : n.val = N) (hV : V < 2 ^ 256) (hm : m = n ^ V) (hR : m.val = R) (w : World) : Calls Try.prog 35 #[.agg (vals (bytesN N)), .agg (vals (bytesN V))] w (Gives (· = .agg (vals (bytesN R))) w) := by
  subst hN; subst hm; exact num_gives (power08_any n V w hV) hR
theorem mul08_ev {n m k : F} {N M R : Nat} (hN : n.val = N) (hM : m.val = M) (hk : k = n * m) (hR : k.val = R) (w : World) : Calls Try.prog 76 #[.agg (vals (bytesN N)), .agg (vals (bytesN M))] w (Gives (· = .agg (vals (bytesN R))) w) := by
  subst hN; subst hM; subst hk; exact num_gives (mul08_any n m w) hR
theorem prime08_ev (k : Int) (h0 : 0 ≤ k) (h1 : k ≤ 237) (V : Nat) (hV : pb k = bytesN V) (w : World) : Calls Try.prog 77 #[.int .u8 k] w (Gives (· = .agg (vals (bytesN V))) w) :=
  (prime08_any k w h0 h1).mono fun _ _ ⟨e1, e2⟩ => ⟨_, e1, by rw [hV], e2⟩
theorem pb2_bytes : pb 2 = bytesN (P - 2) := bytes_of_num _ (pb_len _) (pb_byt _ (by omega) (by omega)) _ (by rw [pb_num]; decide)

set_option maxHeartbeats 1000000 in
set_option maxRecDepth 100000 in
theorem invert08_ev {n m : F} {N R : Nat} (hN : n.val = N) (hm : m = inv n) (hR : m.val = R) (w : World) : Calls Try.prog 37 #[.agg (vals (bytesN N))] w (Gives (· = .agg (vals (bytesN R))) w) := by
  obtain ⟨V, hV⟩ : ∃ V, V = P - 2 := ⟨_, rfl⟩
  have hp : pb 2 = bytesN V := by rw [hV]; exact pb2_bytes
  have hm2 : m = n ^ V := by rw [hm, hV]; rfl
  have hV2 : V < 2 ^ 256 := by rw [hV]; decide
  have H1 := Lib.hid hp
  have H2 := Lib.hid hm2
  have H3 := Lib.hid hV2
  have H4 := Lib.hid hN
  have H5 := Lib.hid hR
  clear hV hp hm hm2 hV2 hN hR
  have R0 : BytesAt (bytesN N) w.heap.size ((w.alloc (.cells (vals (bytesN N)) 29)).alloc (.cells (vals z32) 29)) := ⟨_, new2_0 ..⟩
  have R1 : RowAt 32 (w.heap.size + 1) ((w.alloc (.cells (vals (bytesN N)) 29)).alloc (.cells (vals z32) 29)) := ⟨_, _, new2_1 .., rfl⟩
  have B0 : Below w.heap.size w ((w.alloc (.cells (vals (bytesN N)) 29)).alloc (.cells (vals z32) 29)) := by go_grown
  go_enter Try.func37, Try.ntmps37
  go_wp2_with fail
  change Code.wp _ _ _ _ ((w.alloc (.cells (vals (bytesN N)) 29)).alloc (.cells (vals z32) 29))
  generalize (w.alloc (.cells (vals (bytesN N)) 29)).alloc (.cells (vals z32) 29) = W at R0 R1 B0 ⊢
  refine hide_frame fun t0 HT => ?_
  have HS : t0.size = 6 := by rw [HT]; rfl
  have h1 : t0[1]? = some (.pointer (some ⟨w.heap.size, 0, none⟩)) := by rw [HT]; rfl
  have h2 : t0[2]? = some (.pointer (some ⟨w.heap.size + 1, 0, none⟩)) := by rw [HT]; rfl
  clear HT
  refine wp_region_most 3 (fun i => [3, 4, 5].getD i 0) (fun _ => none) (fun i => [(· = .agg (vals (bytesN N))), (· = .agg (vals (bytesN V))), (· = .agg (vals (bytesN R)))].getD i (fun _ => True)) (fun w' => BytesAt (bytesN N) w.heap.size w' ∧ RowAt 32 (w.heap.size + 1) w' ∧ Below w.heap.size w w') 0
    (by kernel_rfl) (by kernel_rfl) (slots_apart (by kernel_rfl)) (slots_lie (by rw [HS]; kernel_rfl)) ⟨R0, R1, B0.drew⟩ (fun _ _ => Nat.zero_le _) (fun w1 w2 h b => ⟨h.1.keep b, h.2.1.keep b, below_call b h.2.2⟩) ?_ ?_ ?_
  · intro i o hi ho hA
    have hc : i = 0 ∨ i = 1 ∨ i = 2 := by omega
    rcases hc with rfl | rfl | rfl
    · obtain rfl := Option.some.inj ho
      refine ⟨rfl, fun a w' hS hold hin K hK => ?_⟩
      refine if_always rfl ?_
      exact op_ld_nm (.tmp 1) rfl rfl _ (eval_tmp ((hold 1 (slots_not (by kernel_rfl))).trans h1)) hS.1 (bytesN_len _) hK
    · obtain rfl := Option.some.inj ho
      refine ⟨rfl, fun a w' hS hold hin K hK => ?_⟩
      refine if_always rfl ?_
      exact op_fn1 _ _ _ _ rfl rfl rfl (by intro args w; kernel_rfl) (prime08_ev 2 (by omega) (by omega) V H1.out _) hK
    · obtain rfl := Option.some.inj ho
      refine ⟨rfl, fun a w' hS hold hin K hK => ?_⟩
      obtain ⟨y0, x0, rfl⟩ := hin 0 rfl (by omega) rfl
      obtain ⟨y1, x1, rfl⟩ := hin 1 rfl (by omega) rfl
      refine if_always rfl ?_
      exact op_fn2 _ _ _ _ _ _ rfl rfl (eval_tmp x0) (eval_tmp x1) (by intro args w; kernel_rfl) (power08_ev H4.out H3.out H2.out H5.out _) hK
  · intro i o sz hi ho hA; cases hA
  · intro t1 w2 hs hold hout _ _ hS
    obtain ⟨_, h5, rfl⟩ : ∃ x', t1[5]? = some x' ∧ x' = (.agg (vals (bytesN R)) : Value) := hout 2 (by omega) rfl
    replace h2 := (hold 2 (slots_not (by kernel_rfl))).trans h2
    simp only [List.drop_succ_cons, List.drop_zero]
    refine st_nm rfl (.tmp 2) (.tmp 5) rfl rfl _ _ (eval_tmp h2) (eval_tmp h5) rfl (bytesN_len _) hS.2.1 fun w3 e3 p3 => ?_
    have B3 := hS.2.2.trans (p3.2.mono (by omega))
    obtain ⟨t3, e3⟩ := e3
    clear hold hout hS p3
    refine wpList_nil ?_
    go_wp2_with fail
    refine ret_row rfl _ _ _ (eval_tmp (a := ⟨t1, _⟩) h2) e3 32 tNum (by rw [vals_size, bytesN_len]) rfl ?_
    exact ⟨_, rfl, rfl, B3⟩
end Go.Proofs.Ytciakfhjjnmeeaa
