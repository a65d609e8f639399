/- Walks of package field: Power and its literal, Invert. Nothing that was there is turned. -/
import Derived.Test.YtciakfhjjnmeeaaOpsF
import Derived.Test.YtciakfhjjnmeeaaPow
namespace Go.Proofs.Ytciakfhjjnmeeaa
open Go.RowKit Nt

theorem and_one8 (x : Int) (h0 : 0 ≤ x) (h1 : x < 256) : bits .and .u8 x 1 = x % 2 := by go_bits2

/-- What one bit makes of a power. -/
def stepF (c : Bool) (n x : F) : F := selF c (n * n * x) (n * n)

set_option maxHeartbeats 1000000 in
set_option maxRecDepth 100000 in
theorem take_any (b : Int) (g gx : Nat) (n x : F) (w : World) (hb : 0 ≤ b ∧ b < 18446744073709551616) (hg : ElAt n g w) (hx : ElAt x gx w) (hlt : gx < g) :
    Calls Try.prog 74 #[.int .u64 b, .pointer (some ⟨g, 0, none⟩), .pointer (some ⟨gx, 0, none⟩)] w fun e w' => e = .returned (.tuple #[]) ∧ ElAt (stepF (decide (b % 2 = 1)) n x) g w' ∧ Below g w w' := by
  obtain ⟨z0, z1, z2, z3, z4, tz, RZ, HZ⟩ := hg.open
  have HX := Lib.hid hx
  have HL := Lib.hid hg.lt
  clear hx hg
  go_enter Try.func74, Try.ntmps74
  go_wp2_with (refine ld_row rfl 26 (.tmp 1) rfl _ (by rfl) _ _ RZ 5 tElem (by rfl) ?_)
  refine (square_any _ _ _ _ _ n _ HZ).mono ?_
  rintro e w1 ⟨s0, s1, s2, s3, s4, rfl, HS', b1⟩
  have RZ1 := row_call b1 RZ
  have X1 := HX.out.keep b1
  have B1 : Below g w w1 := b1.mono (Nat.le_of_lt HL.out)
  clear RZ b1 HX
  have EZ := ElAt.mk (row_put (cs' := #[.int .u64 s0, .int .u64 s1, .int .u64 s2, .int .u64 s3, .int .u64 s4]) RZ1) HS'
  obtain ⟨x0, x1, x2, x3, x4, tx, RX, HX⟩ := X1.open
  have EX := ElAt.mk (row_put_other (cs := #[.int .u64 s0, .int .u64 s1, .int .u64 s2, .int .u64 s3, .int .u64 s4]) RX (by omega : gx ≠ g)) HX
  have B2 := below_setRow B1 (Nat.le_refl _) #[.int .u64 s0, .int .u64 s1, .int .u64 s2, .int .u64 s3, .int .u64 s4]
  go_wp2_with (refine st_row rfl 26 (.tmp 1) _ rfl _ _ (by rfl) (by rfl) _ _ RZ1 5 tElem (by rfl) (by rfl) (ev_one ..) ?_)
  generalize w1.setRow g #[.int .u64 s0, .int .u64 s1, .int .u64 s2, .int .u64 s3, .int .u64 s4] = W at *
  clear RZ1 RX HX HS' X1 B1 HZ HL
  refine hide_frame fun t0 HT => ?_
  have HS : t0.size = 13 := by rw [HT]; rfl
  have h0 : t0[0]? = some (.int .u64 b) := by rw [HT]; rfl
  have h1 : t0[1]? = some (.pointer (some ⟨g, 0, none⟩)) := by rw [HT]; rfl
  have h2 : t0[2]? = some (.pointer (some ⟨gx, 0, none⟩)) := by rw [HT]; rfl
  clear HT
  refine wp_region_most 7 (fun i => [6, 7, 8, 9, 10, 11, 12].getD i 0) (fun _ => none) (fun i => [(· = .int .u64 b), (· = .int .u64 (mk (decide (b % 2 = 1)))), IsEl (n * n), IsEl x, IsEl ((n * n) * x), IsEl (n * n), IsEl (selF (decide (b % 2 = 1)) ((n * n) * x) (n * n))].getD i (fun _ => True)) (fun w' => ElAt (n * n) g w' ∧ ElAt x gx w' ∧ Below g w w') 0
    (by kernel_rfl) (by kernel_rfl) (slots_apart (by kernel_rfl)) (slots_lie (by rw [HS]; kernel_rfl)) ⟨EZ, EX, B2.drew⟩ (fun _ _ => Nat.zero_le _) (fun w1 w2 h b => ⟨h.1.keep b, h.2.1.keep b, h.2.2.trans (b.mono (Nat.le_of_lt h.1.lt))⟩) ?_ ?_ ?_
  · intro i o hi ho hA
    have hc : i = 0 ∨ i = 1 ∨ i = 2 ∨ i = 3 ∨ i = 4 ∨ i = 5 ∨ i = 6 := by omega
    rcases hc with rfl | rfl | rfl | rfl | rfl | rfl | rfl
    · obtain rfl := Option.some.inj ho
      refine ⟨rfl, fun a w' hS hold hin K hK => ?_⟩
      refine if_always rfl ?_
      exact op_move (V := (· = .int .u64 b)) _ _ rfl rfl (eval_tmp ((hold 0 (slots_not (by kernel_rfl))).trans h0)) rfl hK
    · obtain rfl := Option.some.inj ho
      refine ⟨rfl, fun a w' hS hold hin K hK => ?_⟩
      obtain ⟨y0, x0, rfl⟩ := hin 0 rfl (by omega) rfl
      refine if_always rfl ?_
      exact op_fn1 _ _ _ _ rfl rfl (eval_tmp x0) (by intro args w; kernel_rfl) (mbit_ev b (by omega) (by omega) _) hK
    · obtain rfl := Option.some.inj ho
      refine ⟨rfl, fun a w' hS hold hin K hK => ?_⟩
      refine if_always rfl ?_
      exact op_ld_el (.tmp 1) rfl rfl _ (eval_tmp ((hold 1 (slots_not (by kernel_rfl))).trans h1)) hS.1 hK
    · obtain rfl := Option.some.inj ho
      refine ⟨rfl, fun a w' hS hold hin K hK => ?_⟩
      refine if_always rfl ?_
      exact op_ld_el (.tmp 2) rfl rfl _ (eval_tmp ((hold 2 (slots_not (by kernel_rfl))).trans h2)) hS.2.1 hK
    · obtain rfl := Option.some.inj ho
      refine ⟨rfl, fun a w' hS hold hin K hK => ?_⟩
      obtain ⟨y2, x2, (v2 : IsEl (n * n) y2)⟩ := hin 2 rfl (by omega) rfl
      obtain ⟨y3, x3, (v3 : IsEl x y3)⟩ := hin 3 rfl (by omega) rfl
      refine if_always rfl ?_
      exact op_fn2 _ _ _ _ _ _ rfl rfl (eval_tmp x2) (eval_tmp x3) (by intro args w; kernel_rfl) (mul_el v2 v3 _) hK
    · obtain rfl := Option.some.inj ho
      refine ⟨rfl, fun a w' hS hold hin K hK => ?_⟩
      refine if_always rfl ?_
      exact op_ld_el (.tmp 1) rfl rfl _ (eval_tmp ((hold 1 (slots_not (by kernel_rfl))).trans h1)) hS.1 hK
    · obtain rfl := Option.some.inj ho
      refine ⟨rfl, fun a w' hS hold hin K hK => ?_⟩
      obtain ⟨y1, x1, rfl⟩ := hin 1 rfl (by omega) rfl
      obtain ⟨y4, x4, (v4 : IsEl ((n * n) * x) y4)⟩ := hin 4 rfl (by omega) rfl
      obtain ⟨y5, x5, (v5 : IsEl (n * n) y5)⟩ := hin 5 rfl (by omega) rfl
      refine if_always rfl ?_
      exact op_fn3 _ _ _ _ _ _ _ _ rfl rfl (eval_tmp x1) (eval_tmp x4) (eval_tmp x5) (by intro args w; kernel_rfl) (pick_el (decide (b % 2 = 1)) v4 v5 _) hK
  · intro i o sz hi ho hA; cases hA
  · intro t1 w2 hs hold hout _ _ hS
    obtain ⟨_, h12, u0, u1, u2, u3, u4, rfl, HU⟩ : ∃ x', t1[12]? = some x' ∧ IsEl (selF (decide (b % 2 = 1)) (n * n * x) (n * n)) x' := hout 6 (by omega) rfl
    replace h1 := (hold 1 (slots_not (by kernel_rfl))).trans h1
    obtain ⟨_, _, _, _, _, tz, RZ, _⟩ := hS.1.open
    have EF := ElAt.mk (row_put (cs' := #[.int .u64 u0, .int .u64 u1, .int .u64 u2, .int .u64 u3, .int .u64 u4]) RZ) HU
    have BF := below_setRow hS.2.2 (Nat.le_refl _) #[.int .u64 u0, .int .u64 u1, .int .u64 u2, .int .u64 u3, .int .u64 u4]
    clear hold hout hS
    simp only [List.drop_succ_cons, List.drop_zero]
    refine st_row rfl 26 (.tmp 1) (.tmp 12) rfl _ _ (eval_tmp h1) (eval_tmp h12) _ _ RZ 5 tElem (by rfl) (by rfl) (ev_one ..) ?_
    refine wpList_nil ?_
    go_wp2_with fail
    go_returns
    exact ⟨rfl, EF, BF⟩

set_option maxHeartbeats 1000000 in
set_option maxRecDepth 100000 in
theorem power_any (x0 x1 x2 x3 x4 : Int) (n : F) (V : Nat) (w : World) (h : El x0 x1 x2 x3 x4 n) (hV : V < 2 ^ 256) :
    Calls Try.prog 34 #[ev x0 x1 x2 x3 x4, .agg (vals (bytesN V))] w (ElemOut (n ^ V) w) := by
  have HV := Lib.hid hV
  clear hV
  have hmf : ∀ (fn : Fn) (first cap : Array Value) (w : World), (Instr.makeFunc fn first cap).run Try.prog w = .ok (.func fn first cap) w := fun _ _ _ _ => rfl
  have R0 := new3_0 w (.cells #[.int .u64 x0, .int .u64 x1, .int .u64 x2, .int .u64 x3, .int .u64 x4] 26) (.cells (vals (bytesN V)) 22) (.cells #[.int .u64 0, .int .u64 0, .int .u64 0, .int .u64 0, .int .u64 0] 26)
  have R1 := new3_1 w (.cells #[.int .u64 x0, .int .u64 x1, .int .u64 x2, .int .u64 x3, .int .u64 x4] 26) (.cells (vals (bytesN V)) 22) (.cells #[.int .u64 0, .int .u64 0, .int .u64 0, .int .u64 0, .int .u64 0] 26)
  have R2 := new3_2 w (.cells #[.int .u64 x0, .int .u64 x1, .int .u64 x2, .int .u64 x3, .int .u64 x4] 26) (.cells (vals (bytesN V)) 22) (.cells #[.int .u64 0, .int .u64 0, .int .u64 0, .int .u64 0, .int .u64 0] 26)
  have B0 : Below w.heap.size w (((w.alloc (.cells #[.int .u64 x0, .int .u64 x1, .int .u64 x2, .int .u64 x3, .int .u64 x4] 26)).alloc (.cells (vals (bytesN V)) 22)).alloc (.cells #[.int .u64 0, .int .u64 0, .int .u64 0, .int .u64 0, .int .u64 0] 26)) := by go_grown
  have EX := ElAt.mk R0 h
  clear R0 h
  go_enter Try.func34, Try.ntmps34
  go_wp2_with fail
  generalize ((w.alloc (.cells #[.int .u64 x0, .int .u64 x1, .int .u64 x2, .int .u64 x3, .int .u64 x4] 26)).alloc (.cells (vals (bytesN V)) 22)).alloc (.cells #[.int .u64 0, .int .u64 0, .int .u64 0, .int .u64 0, .int .u64 0] 26) = W at *
  refine (small_lit 1 _ (by omega)).mono ?_
  rintro e w1 ⟨a0, a1, a2, a3, a4, rfl, HA, b1⟩
  replace EX := EX.keep b1
  replace R1 := row_call b1 R1
  replace R2 := row_call b1 R2
  have B1 := below_call b1 B0
  have HL := row_lt R2
  clear b1 B0 W
  go_wp2_with fail
  have EA := ElAt.mk (row_new (w := w1) (x := .cells #[.int .u64 a0, .int .u64 a1, .int .u64 a2, .int .u64 a3, .int .u64 a4] 26)) HA
  replace EX := EX.keep ((Below.refl _ _).alloc (Nat.le_refl _) (.cells #[.int .u64 a0, .int .u64 a1, .int .u64 a2, .int .u64 a3, .int .u64 a4] 26))
  replace R1 := row_alloc (x := .cells #[.int .u64 a0, .int .u64 a1, .int .u64 a2, .int .u64 a3, .int .u64 a4] 26) R1
  replace R2 := row_alloc (x := .cells #[.int .u64 a0, .int .u64 a1, .int .u64 a2, .int .u64 a3, .int .u64 a4] 26) R2
  have B2 := B1.alloc B1.size (.cells #[.int .u64 a0, .int .u64 a1, .int .u64 a2, .int .u64 a3, .int .u64 a4] 26)
  generalize w1.alloc (.cells #[.int .u64 a0, .int .u64 a1, .int .u64 a2, .int .u64 a3, .int .u64 a4] 26) = W at *
  clear B1 HA
  generalize w1.heap.size = g at *
  clear w1
  go_loopw [7] (fun i wr => ∃ k : Nat, k ≤ 256 ∧ i = .int .i64 ((k : Int) - 1) ∧ ElAt n w.heap.size wr ∧ ElAt (n ^ (V / 2 ^ k)) g wr ∧ wr.heap[w.heap.size + 1]? = some (.cells (vals (bytesN V)) 22 (0, 0)) ∧ wr.heap[w.heap.size + 1 + 1]? = some (.cells #[.int .u64 0, .int .u64 0, .int .u64 0, .int .u64 0, .int .u64 0] 26 (0, 0)) ∧ Below w.heap.size w wr) (fun i _ => (intOf i + 1).toNat)
  case atStart => exact ⟨256, by omega, rfl, EX, by rw [pow_top _ _ HV.out]; exact EA, R1, R2, B2⟩
  case round =>
    obtain ⟨k, hk, rfl, QX, QO, QB, QZ, BK⟩ := hrel
    clear EX EA R1 R2 B2
    cases k with
    | zero =>
      replace QO : ElAt (n ^ V) g wr := by simpa using QO
      obtain ⟨o0, o1, o2, o3, o4, tO, RO, HO⟩ := QO.open
      go_wp2_with (first | (refine ld_row rfl 26 (.tmp 5) rfl _ (by rfl) _ _ RO 5 tElem (by rfl) ?_) | (refine st_row rfl 26 (.tmp 4) _ rfl _ _ (by rfl) (by rfl) _ _ QZ 5 tElem (by rfl) (by rfl) (ev_one ..) ?_))
      refine ret_row rfl _ _ _ rfl (row_put QZ) 5 tElem (by rfl) rfl ?_
      exact ⟨_, _, _, _, _, rfl, HO, below_setRow BK (by omega) _⟩
    | succ j =>
      rw [show ((j + 1 : Nat) : Int) - 1 = (j : Int) by omega]
      have cb : wr.cell? ⟨w.heap.size + 1, j / 8, none⟩ = some (.int .u8 (byteOf V (j / 8))) := (row_cell QB _).trans (by rw [vals_get (by rw [bytesN_len]; omega), nth_bytesN _ _ (by omega)])
      have HB := Lib.hid QB
      have HZ := Lib.hid QZ
      clear QB QZ
      have t8 : ((j : Int)).tmod 8 = (j : Int) % 8 := Int.tmod_eq_emod_of_nonneg (by omega)
      have hby := byteOf_lt V (j / 8)
      go_wp2_with fail
      have hbit : IntKind.u64.wrap (bits .and .u8 ((byteOf V (j / 8) : Int) / 2 ^ (j % 8)) 1) = ((V / 2 ^ j % 2 : Nat) : Int) := by
        have h1 : ((byteOf V (j / 8) : Nat) : Int) / 2 ^ (j % 8) = ((byteOf V (j / 8) / 2 ^ (j % 8) : Nat) : Int) := by push_cast; rfl
        have h2 : byteOf V (j / 8) / 2 ^ (j % 8) < 256 := Nat.lt_of_le_of_lt (Nat.div_le_self _ _) hby
        have h3 := nat_bit V j
        rw [h1, ← h3]
        generalize byteOf V (j / 8) / 2 ^ (j % 8) = q at *
        rw [and_one8 (q : Int) (by omega) (by omega), wrap_small ((q : Int) % 2) (by omega) (by omega)]
        omega
      rw [hbit]
      refine (take_any _ g w.heap.size _ n wr (by omega) QO QX (by omega)).mono ?_
      rintro e w2 ⟨rfl, QO2, b2⟩
      have hstep : stepF (decide (((V / 2 ^ j % 2 : Nat) : Int) % 2 = 1)) (n ^ (V / 2 ^ (j + 1))) n = n ^ (V / 2 ^ j) := by
        rw [pow_bit n V j]
        have h4 : decide (((V / 2 ^ j % 2 : Nat) : Int) % 2 = 1) = decide (V / 2 ^ j % 2 = 1) := decide_eq_decide.2 (by omega)
        rw [h4]
        by_cases h5 : V / 2 ^ j % 2 = 1 <;> simp [stepF, selF, h5]
      rw [hstep] at QO2
      have QX2 := QX.under b2 (by omega)
      have QB2 := (b2.block _ (by omega)).trans HB.out
      have QZ2 := (b2.block _ (by omega)).trans HZ.out
      have BK2 := BK.trans (b2.mono (by omega))
      clear hbit hstep cb b2 QO QX BK
      go_wp2
      go_roundw
      case rel => exact ⟨j, by omega, rfl, QX2, QO2, QB2, QZ2, BK2⟩
      case measure => simp [intOf]

set_option maxHeartbeats 1000000 in
set_option maxRecDepth 100000 in
theorem invert_any (x0 x1 x2 x3 x4 : Int) (n : F) (w : World) (h : El x0 x1 x2 x3 x4 n) :
    Calls Try.prog 36 #[ev x0 x1 x2 x3 x4] w (ElemOut (inv n) w) := by
  have R0 := new2_0 w (.cells #[.int .u64 x0, .int .u64 x1, .int .u64 x2, .int .u64 x3, .int .u64 x4] 26) (.cells #[.int .u64 0, .int .u64 0, .int .u64 0, .int .u64 0, .int .u64 0] 26)
  have R1 := new2_1 w (.cells #[.int .u64 x0, .int .u64 x1, .int .u64 x2, .int .u64 x3, .int .u64 x4] 26) (.cells #[.int .u64 0, .int .u64 0, .int .u64 0, .int .u64 0, .int .u64 0] 26)
  have B0 : Below w.heap.size w ((w.alloc (.cells #[.int .u64 x0, .int .u64 x1, .int .u64 x2, .int .u64 x3, .int .u64 x4] 26)).alloc (.cells #[.int .u64 0, .int .u64 0, .int .u64 0, .int .u64 0, .int .u64 0] 26)) := by go_grown
  go_enter Try.func36, Try.ntmps36
  go_wp2_with fail
  generalize (w.alloc (.cells #[.int .u64 x0, .int .u64 x1, .int .u64 x2, .int .u64 x3, .int .u64 x4] 26)).alloc (.cells #[.int .u64 0, .int .u64 0, .int .u64 0, .int .u64 0, .int .u64 0] 26) = W at *
  refine (small_lit 2 _ (by omega)).mono ?_
  rintro e w1 ⟨a0, a1, a2, a3, a4, rfl, HA, b1⟩
  go_wp2_with fail
  refine (neg_any _ _ _ _ _ _ _ HA).mono ?_
  rintro e w2 ⟨c0, c1, c2, c3, c4, rfl, HC, b2⟩
  go_wp2_with fail
  refine (bytes_val _ _ _ _ _ _ _ (P - 2) HC (by decide)).mono ?_
  rintro e w3 ⟨rfl, b3⟩
  replace R0 := row_call b3 (row_call b2 (row_call b1 R0))
  replace R1 := row_call b3 (row_call b2 (row_call b1 R1))
  have B3 := below_call b3 (below_call b2 (below_call b1 B0))
  clear b1 b2 b3 B0 HA HC W
  have HL := row_lt R1
  replace R0 := row_alloc (x := .cells (vals (bytesN (P - 2))) 22) R0
  replace R1 := row_alloc (x := .cells (vals (bytesN (P - 2))) 22) R1
  have R2 := row_new (w := w3) (x := .cells (vals (bytesN (P - 2))) 22)
  have B4 := B3.alloc B3.size (.cells (vals (bytesN (P - 2))) 22)
  have HB := Lib.hid (show (vals (bytesN (P - 2))).size = 32 by rw [vals_size, bytesN_len])
  have HO := Lib.hid (vals_one (bytesN (P - 2)))
  have HP : P - 2 < 2 ^ 256 := by decide
  have hinv : inv n = n ^ (P - 2) := rfl
  have HI := Lib.hid hinv
  clear hinv
  generalize P - 2 = V at *
  go_wp2_with (first | (refine st_new rfl 22 (.tmp 3) _ rfl _ _ _ (by rfl) (by rfl) 32 tBytes HB.out (by rfl) HO.out ?_; generalize w3.alloc (.cells (vals (bytesN V)) 22) = W at *; generalize w3.heap.size = g at *) | (refine ld_row rfl 26 (.tmp 1) rfl _ (by rfl) _ _ R0 5 tElem (by rfl) ?_) | (refine ld_row rfl 22 (.tmp 3) rfl _ (by rfl) _ _ R2 32 tBytes HB.out ?_))
  refine (power_any _ _ _ _ _ _ _ _ h HP).mono ?_
  rintro e w4 ⟨o0, o1, o2, o3, o4, rfl, HO', b4⟩
  replace R1 := row_call b4 R1
  have B5 := below_call b4 B4
  clear b4 B4 R0 R2
  go_wp2_with (refine st_row rfl 26 (.tmp 2) _ rfl _ _ (by rfl) (by rfl) _ _ R1 5 tElem (by rfl) (by rfl) (ev_one ..) ?_)
  refine ret_row rfl _ _ _ rfl (row_put R1) 5 tElem (by rfl) rfl ?_
  rw [← HI.out] at HO'
  exact ⟨_, _, _, _, _, rfl, HO', below_setRow B5 (by omega) _⟩

theorem inv_el {x : Value} {n : F} (hx : IsEl n x) (w : World) : Calls Try.prog 36 #[x] w (Gives (IsEl (inv n)) w) := by
  obtain ⟨_, _, _, _, _, rfl, h1⟩ := hx
  exact (invert_any _ _ _ _ _ _ w h1).mono fun _ _ ⟨z0, z1, z2, z3, z4, e1, e2, e3⟩ => ⟨_, e1, ⟨z0, z1, z2, z3, z4, rfl, e2⟩, e3⟩
theorem inv_ev {x : Value} {n m : F} (hx : IsEl n x) (h : m = inv n) (w : World) : Calls Try.prog 36 #[x] w (Gives (IsEl m) w) := by
  rw [h]; exact inv_el hx w
theorem power_el {x : Value} {n : F} (hx : IsEl n x) (V : Nat) (hV : V < 2 ^ 256) (w : World) : Calls Try.prog 34 #[x, .agg (vals (bytesN V))] w (Gives (IsEl (n ^ V)) w) := by
  obtain ⟨_, _, _, _, _, rfl, h1⟩ := hx
  exact (power_any _ _ _ _ _ _ V w h1 hV).mono fun _ _ ⟨z0, z1, z2, z3, z4, e1, e2, e3⟩ => ⟨_, e1, ⟨z0, z1, z2, z3, z4, rfl, e2⟩, e3⟩
theorem power_ev {x : Value} {n m : F} (hx : IsEl n x) (V : Nat) (hV : V < 2 ^ 256) (h : m = n ^ V) (w : World) : Calls Try.prog 34 #[x, .agg (vals (bytesN V))] w (Gives (IsEl m) w) := by
  rw [h]; exact power_el hx V hV w
end Go.Proofs.Ytciakfhjjnmeeaa
