/- The law's own 'awake' returns true. Nothing that was there is turned. -/
import Derived.Test.YtciakfhjjnmeeaaFieldL
import Derived.Test.YtciakfhjjnmeeaaRefA
namespace Go.Proofs.Ytciakfhjjnmeeaa
open Go.RowKit Nt

theorem bytes_val (x0 x1 x2 x3 x4 : Int) (n : F) (w : World) (V : Nat) (h : El x0 x1 x2 x3 x4 n) (hV : n.val = V) :
    Calls Try.prog 20 #[ev x0 x1 x2 x3 x4] w fun e w' => e = .returned (.agg (vals (bytesN V))) ∧ Below w.heap.size w w' := by
  subst hV; exact bytes_any x0 x1 x2 x3 x4 n w h

theorem pb_bytes (k : Nat) (hk : k ≤ 237) : pb k = bytesN (57896044618658097711785492504343953926634992332820282019728792003956564819949 - k) :=
  bytes_of_num _ (pb_len _) (pb_byt _ (by omega) (by omega)) _ (by rw [pb_num]; omega)

theorem numF_pb0 : numF (pb 0) = 0 := by
  rw [numF, pb_num]; decide

theorem ld_row_on {P : Program} {ops : Array Oper} {rest : List Oper} {o : Oper} {a : Act} {w : World} {Q : Exit → Act → World → Prop} (hgd : Region.wanted o (yielded ops a.tmps) = true) (ty : TypeId) (x : Operand) (ho : o.op = .load ty x)
    (g : Nat) (hx : a.eval x = .pointer (some ⟨g, 0, none⟩)) (cs : Array Value) (t : TypeId) (hg : w.heap[g]? = some (.cells cs t (0, 0))) (n : Nat) (hT : RowT P ty n) (hn : cs.size = n)
    (h : wpList P ops Q rest (a.put o.dst (.agg cs)) w) : wpList P ops Q (o :: rest) a w := by
  obtain ⟨d, h1, h2, h3⟩ := hT
  subst hn
  exact wpList_step fun K hK => by
    simp only [hgd, if_true]
    exact wp_load_row ty x ho g hx t cs (0, 0) d hg h1 (by cases d <;> simp_all) h3 (hK _ _ h)

set_option maxHeartbeats 1000000 in
set_option maxRecDepth 100000 in
theorem awake_any (w : World) : Calls Try.prog 24 #[] w fun e w' => e = .returned (.bool true) ∧ Below w.heap.size w w' := by
  have n35 : (Fin.ofNat P 5 * Fin.ofNat P 7).val = 35 := by decide
  have nm1 : (Fin.ofNat P 0 - Fin.ofNat P 1).val = 57896044618658097711785492504343953926634992332820282019728792003956564819948 := by decide
  have n350 : ¬ (Fin.ofNat P 5 * Fin.ofNat P 7) = 0 := by decide
  have hpb1 := Lib.hid (pb_bytes 1 (by omega))
  have N35 := Lib.hid n35
  have NM1 := Lib.hid nm1
  have N350 := Lib.hid n350
  clear n35 nm1 n350
  go_enter Try.func24, Try.ntmps24
  go_wp2_with fail
  refine (small_lit 5 _ (by omega)).mono ?_
  rintro e w1 ⟨a0, a1, a2, a3, a4, rfl, HA, b1⟩
  go_wp2_with fail
  refine (small_lit 7 _ (by omega)).mono ?_
  rintro e w2 ⟨c0, c1, c2, c3, c4, rfl, HC, b2⟩
  go_wp2_with fail
  refine (mul_any _ _ _ _ _ _ _ _ _ _ _ _ _ HA HC).mono ?_
  rintro e w3 ⟨d0, d1, d2, d3, d4, rfl, HD, b3⟩
  have B3 : Below w.heap.size w w3 := below_call b3 (below_call b2 (b1.mono (Nat.le_refl _)))
  clear b1 b2 b3 HA HC
  go_wp2_with fail
  have Ra := row_new (w := w3) (x := .cells #[.int .u64 d0, .int .u64 d1, .int .u64 d2, .int .u64 d3, .int .u64 d4] 26)
  have B4 : Below w.heap.size w (w3.alloc (.cells #[.int .u64 d0, .int .u64 d1, .int .u64 d2, .int .u64 d3, .int .u64 d4] 26)) := B3.alloc B3.size _
  generalize w3.alloc (.cells #[.int .u64 d0, .int .u64 d1, .int .u64 d2, .int .u64 d3, .int .u64 d4] 26) = W1 at *
  have HG := B3.size
  clear B3
  generalize w3.heap.size = ga at *
  clear w3
  refine (small_lit 0 _ (by omega)).mono ?_
  rintro e w1 ⟨a0, a1, a2, a3, a4, rfl, HA, b1⟩
  go_wp2_with fail
  refine (small_lit 1 _ (by omega)).mono ?_
  rintro e w2 ⟨c0, c1, c2, c3, c4, rfl, HC, b2⟩
  go_wp2_with fail
  refine (sub_any _ _ _ _ _ _ _ _ _ _ _ _ _ HA HC).mono ?_
  rintro e w3 ⟨e0, e1, e2, e3, e4, rfl, HE, b3⟩
  have Ra3 := row_call b3 (row_call b2 (row_call b1 Ra))
  have B3 : Below w.heap.size w w3 := below_call b3 (below_call b2 (below_call b1 B4))
  clear b1 b2 b3 HA HC Ra B4
  have Ra := row_alloc (x := .cells #[.int .u64 e0, .int .u64 e1, .int .u64 e2, .int .u64 e3, .int .u64 e4] 26) Ra3
  have Rb := row_new (w := w3) (x := .cells #[.int .u64 e0, .int .u64 e1, .int .u64 e2, .int .u64 e3, .int .u64 e4] 26)
  have B4 : Below w.heap.size w (w3.alloc (.cells #[.int .u64 e0, .int .u64 e1, .int .u64 e2, .int .u64 e3, .int .u64 e4] 26)) := B3.alloc B3.size _
  clear Ra3 B3
  have q35 : ∀ w, (Op.equalIn 10000 22 (.agg (vals (bytesN 35))) (.agg #[.int .u8 35, .int .u8 0, .int .u8 0, .int .u8 0, .int .u8 0, .int .u8 0, .int .u8 0, .int .u8 0, .int .u8 0, .int .u8 0, .int .u8 0, .int .u8 0, .int .u8 0, .int .u8 0, .int .u8 0, .int .u8 0, .int .u8 0, .int .u8 0, .int .u8 0, .int .u8 0, .int .u8 0, .int .u8 0, .int .u8 0, .int .u8 0, .int .u8 0, .int .u8 0, .int .u8 0, .int .u8 0, .int .u8 0, .int .u8 0, .int .u8 0, .int .u8 0])).run Try.prog w = .ok true w := fun w => eq_bytes 35 w
  have qm1 := fun w => eq_bytes 57896044618658097711785492504343953926634992332820282019728792003956564819948 w
  go_wp2_with (first | (refine ld_row_on (by kernel_rfl) 26 (.tmp 1) rfl _ (by rfl) _ _ Ra 5 tElem (by rfl) ?_) | (refine ld_row_on (by kernel_rfl) 26 (.tmp 2) rfl _ (by rfl) _ _ Rb 5 tElem (by rfl) ?_))
  refine (bytes_val _ _ _ _ _ _ _ 35 HD N35.out).mono ?_
  rintro e w4 ⟨rfl, b4⟩
  have Sa := row_call b4 Ra
  have Sb := row_call b4 Rb
  have B5 := below_call b4 B4
  generalize w3.heap.size = gb at *
  clear Ra Rb B4 b4
  go_wp2_with (first | (refine ld_row_on (by kernel_rfl) 26 (.tmp 1) rfl _ (by rfl) _ _ Sa 5 tElem (by rfl) ?_) | (refine ld_row_on (by kernel_rfl) 26 (.tmp 2) rfl _ (by rfl) _ _ Sb 5 tElem (by rfl) ?_))
  refine (bytes_val _ _ _ _ _ _ _ 57896044618658097711785492504343953926634992332820282019728792003956564819948 HE NM1.out).mono ?_
  rintro e w5 ⟨rfl, b5⟩
  have Ra := row_call b5 Sa
  have Rb := row_call b5 Sb
  have B4 := below_call b5 B5
  clear Sa Sb B5 b5
  clear w4
  go_wp2_with (first | (refine ld_row_on (by kernel_rfl) 26 (.tmp 1) rfl _ (by rfl) _ _ Ra 5 tElem (by rfl) ?_) | (refine ld_row_on (by kernel_rfl) 26 (.tmp 2) rfl _ (by rfl) _ _ Rb 5 tElem (by rfl) ?_))
  refine (prime_any 1 _ (by omega) (by omega)).mono ?_
  rintro e w6 ⟨rfl, b6⟩
  rw [show pb 1 = bytesN 57896044618658097711785492504343953926634992332820282019728792003956564819948 from hpb1.out]
  have Sa := row_call b6 Ra
  have Sb := row_call b6 Rb
  have B5 := below_call b6 B4
  clear Ra Rb B4 b6
  clear w5
  go_wp2_with (first | (refine ld_row_on (by kernel_rfl) 26 (.tmp 1) rfl _ (by rfl) _ _ Sa 5 tElem (by rfl) ?_) | (refine ld_row_on (by kernel_rfl) 26 (.tmp 2) rfl _ (by rfl) _ _ Sb 5 tElem (by rfl) ?_))
  refine (prime_any 0 _ (by omega) (by omega)).mono ?_
  rintro e w7 ⟨rfl, b7⟩
  have Ra := row_call b7 Sa
  have Rb := row_call b7 Sb
  have B4 := below_call b7 B5
  clear Sa Sb B5 b7
  clear w6
  go_wp2_with (first | (refine ld_row_on (by kernel_rfl) 26 (.tmp 1) rfl _ (by rfl) _ _ Ra 5 tElem (by rfl) ?_) | (refine ld_row_on (by kernel_rfl) 26 (.tmp 2) rfl _ (by rfl) _ _ Rb 5 tElem (by rfl) ?_))
  refine (of_any (pb 0) _ (pb_len 0) (pb_byt 0 (by omega) (by omega))).mono ?_
  rintro e w8 ⟨p0, p1, p2, p3, p4, rfl, HP, b8⟩
  have Sa := row_call b8 Ra
  have Sb := row_call b8 Rb
  have B5 := below_call b8 B4
  clear Ra Rb B4 b8
  clear w7
  go_wp2_with (first | (refine ld_row_on (by kernel_rfl) 26 (.tmp 1) rfl _ (by rfl) _ _ Sa 5 tElem (by rfl) ?_) | (refine ld_row_on (by kernel_rfl) 26 (.tmp 2) rfl _ (by rfl) _ _ Sb 5 tElem (by rfl) ?_))
  refine (zero_yes _ _ _ _ _ _ _ HP numF_pb0).mono ?_
  rintro e w9 ⟨rfl, b9⟩
  have Ra := row_call b9 Sa
  have Rb := row_call b9 Sb
  have B4 := below_call b9 B5
  clear Sa Sb B5 b9
  clear w8
  go_wp2_with (first | (refine ld_row_on (by kernel_rfl) 26 (.tmp 1) rfl _ (by rfl) _ _ Ra 5 tElem (by rfl) ?_) | (refine ld_row_on (by kernel_rfl) 26 (.tmp 2) rfl _ (by rfl) _ _ Rb 5 tElem (by rfl) ?_))
  refine (zero_no _ _ _ _ _ _ _ HD N350.out).mono ?_
  rintro e w10 ⟨rfl, b10⟩
  have Sa := row_call b10 Ra
  have Sb := row_call b10 Rb
  have B5 := below_call b10 B4
  clear Ra Rb B4 b10
  clear w9 Sa Sb
  go_wp2_with fail
  clear q35 qm1
  go_returns
  exact ⟨rfl, B5⟩
end Go.Proofs.Ytciakfhjjnmeeaa
