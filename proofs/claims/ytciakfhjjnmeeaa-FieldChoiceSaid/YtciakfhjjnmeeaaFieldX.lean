/- The walk of FieldChoice: it returns true for all bytes. -/
import Derived.Test.YtciakfhjjnmeeaaForm
import Derived.Test.YtciakfhjjnmeeaaOpsW
namespace Go.Proofs.Ytciakfhjjnmeeaa
open Go.RowKit Nt

theorem xor1_range (m : Nat) (hm : m < 18446744073709551616) : 0 ≤ bits .xor .u64 (m : Int) 1 ∧ bits .xor .u64 (m : Int) 1 < 18446744073709551616 := by
  have h : bits .xor .u64 (m : Int) 1 = ((m ^^^ 1 : Nat) : Int) := by go_bits2
  have h2 : m ^^^ 1 < 2 ^ 64 := Nat.xor_lt_two_pow (by omega) (by omega)
  rw [h]; omega
theorem zero_mul_f (n : F) : Fin.ofNat P 0 * n = 0 := by
  have h : (Fin.ofNat P 0 : F) = 0 := rfl
  rw [h]; grind
theorem step_mul_f (j : Nat) (n : F) : Fin.ofNat P j * n + n = Fin.ofNat P (j + 1) * n := by
  have h : (Fin.ofNat P (j + 1) : F) = Fin.ofNat P j + 1 := by
    apply Fin.ext
    rw [val_add, val_one]
    show (j + 1) % P = (j % P + 1) % P
    rw [Nat.add_mod, Nat.mod_eq_of_lt (show 1 < P by decide)]
  rw [h]; grind
theorem wrap_u32_of (m k : Nat) (h : k < 4294967296) (e : m % 40 = k) : IntKind.u32.wrap ((m % 40 : Nat) : Int) = ((k : Nat) : Int) := by
  rw [IntKind.wrap_u32, e]; omega
theorem wrap_u32_mod (m : Nat) : IntKind.u32.wrap ((m : Nat) : Int) = ((m % 4294967296 : Nat) : Int) := by
  rw [IntKind.wrap_u32]; omega
theorem words_range (m : Nat) (mx : Int) (hm : m < 18446744073709551616) (h : 0 ≤ mx ∧ mx < 18446744073709551616) : ∀ j, j < 4 → 0 ≤ nth [0, 18446744073709551615, (m : Int), mx] j ∧ nth [0, 18446744073709551615, (m : Int), mx] j < 18446744073709551616 := by
  intro j hj
  have hc : j = 0 ∨ j = 1 ∨ j = 2 ∨ j = 3 := by omega
  rcases hc with rfl | rfl | rfl | rfl
  · exact ⟨(by omega : (0 : Int) ≤ 0), (by omega : (0 : Int) < 18446744073709551616)⟩
  · exact ⟨(by omega : (0 : Int) ≤ 18446744073709551615), (by omega : (18446744073709551615 : Int) < 18446744073709551616)⟩
  · exact ⟨(by omega : (0 : Int) ≤ m), (by omega : (m : Int) < 18446744073709551616)⟩
  · exact h

set_option maxHeartbeats 4000000 in
set_option maxRecDepth 100000 in
theorem fieldChoice_walk (La Lb : List Int) (m : Nat) (w : World) (hlLa : La.length = 32) (hbLa : Byt La) (hlLb : Lb.length = 32) (hbLb : Byt Lb) (hm : m < 18446744073709551616) :
    Calls Try.prog 7 #[.agg (vals La), .agg (vals Lb), .int .u64 m] w fun e w' => e = .returned (.bool true) ∧ Below w.heap.size w w' := by
  have HLLa := Lib.hid hlLa
  have HLLb := Lib.hid hlLb
  clear hlLa hlLb
  have HM := Lib.hid hm
  clear hm
  have R0 : BytesAt La w.heap.size ((w.alloc (.cells (vals La) 22)).alloc (.cells (vals Lb) 22)) := ⟨_, new2_0 w (.cells (vals La) 22) (.cells (vals Lb) 22)⟩
  have R1 : BytesAt Lb (w.heap.size + 1) ((w.alloc (.cells (vals La) 22)).alloc (.cells (vals Lb) 22)) := ⟨_, new2_1 w (.cells (vals La) 22) (.cells (vals Lb) 22)⟩
  have B0 : Below w.heap.size w ((w.alloc (.cells (vals La) 22)).alloc (.cells (vals Lb) 22)) := by go_grown
  go_enter Try.func7, Try.ntmps7
  go_wp2_with fail
  generalize (w.alloc (.cells (vals La) 22)).alloc (.cells (vals Lb) 22) = W0 at *
  refine (awake_any _).mono ?_
  rintro e W ⟨rfl, b1⟩
  have hS : BytesAt La w.heap.size W ∧ BytesAt Lb (w.heap.size + 1) W ∧ Below w.heap.size w W := ⟨R0.keep b1, R1.keep b1, below_call b1 B0⟩
  clear b1 R0 R1 B0 W0
  go_wp2_with fail
  obtain ⟨na, hna⟩ : ∃ na, numF La = na := ⟨_, rfl⟩
  obtain ⟨nb, hnb⟩ : ∃ nb, numF Lb = nb := ⟨_, rfl⟩
  have Hna := Lib.hid hna
  have Hnb := Lib.hid hnb
  clear hna hnb
  obtain ⟨M, hM⟩ : ∃ M, M = W.heap.size := ⟨_, rfl⟩
  have hMB : w.heap.size ≤ M := hM ▸ (hS.2.2).size
  have lt0 := (hS.1).lt
  have lt1 := (hS.2.1).lt
  rw [← hM] at lt0 lt1
  refine hide_frame fun t0 HT => ?_
  have HS : t0.size = 127 := by rw [HT]; rfl
  have h3 : t0[3]? = some (.pointer (some ⟨w.heap.size, 0, none⟩)) := by rw [HT]; rfl
  have h4 : t0[4]? = some (.pointer (some ⟨(w.heap.size + 1), 0, none⟩)) := by rw [HT]; rfl
  have h2 : t0[2]? = some (.int .u64 m) := by rw [HT]; rfl
  clear HT
  refine wp_region_most 6 (fun i => [18, 19, 20, 21, 7, 8].getD i 0) (fun i => [none, none, none, none, some 5, some 5].getD i none) (fun i => [(· = .agg (vals La)), IsEl na, (· = .agg (vals Lb)), IsEl nb, (fun _ => True), (fun _ => True)].getD i (fun _ => True)) (fun w' => BytesAt La w.heap.size w' ∧ BytesAt Lb (w.heap.size + 1) w' ∧ Below w.heap.size w w' ∧ M ≤ w'.heap.size) M
    (by kernel_rfl) (by kernel_rfl) (slots_apart (by kernel_rfl)) (slots_lie (by rw [HS]; kernel_rfl)) ⟨hS.1, hS.2.1, (hS.2.2).drew, Nat.le_of_eq hM⟩ (fun w' h => h.2.2.2) (fun w1 w2 h b => ⟨(h.1).keep b, (h.2.1).keep b, below_call b h.2.2.1, Nat.le_trans h.2.2.2 b.size⟩) ?_ ?_ ?_
  · clear hS
    intro i o hi ho hA
    have hc : i = 0 ∨ i = 1 ∨ i = 2 ∨ i = 3 ∨ i = 4 ∨ i = 5 := by omega
    rcases hc with rfl | rfl | rfl | rfl | rfl | rfl
    · obtain rfl := Option.some.inj ho
      refine ⟨rfl, fun a w' hS hold hin K hK => ?_⟩
      refine if_always rfl ?_
      exact op_ld_by (.tmp 3) rfl rfl _ (eval_tmp ((hold 3 (slots_not (by kernel_rfl))).trans h3)) hS.1 HLLa.out hK
    · obtain rfl := Option.some.inj ho
      refine ⟨rfl, fun a w' hS hold hin K hK => ?_⟩
      obtain ⟨y0, x0, rfl⟩ := hin 0 rfl (by omega) rfl
      refine if_always rfl ?_
      exact op_fn1 _ _ _ _ rfl rfl (eval_tmp x0) (by intro args w; kernel_rfl) (of_ev La HLLa.out hbLa Hna.out _) hK
    · obtain rfl := Option.some.inj ho
      refine ⟨rfl, fun a w' hS hold hin K hK => ?_⟩
      refine if_always rfl ?_
      exact op_ld_by (.tmp 4) rfl rfl _ (eval_tmp ((hold 4 (slots_not (by kernel_rfl))).trans h4)) hS.2.1 HLLb.out hK
    · obtain rfl := Option.some.inj ho
      refine ⟨rfl, fun a w' hS hold hin K hK => ?_⟩
      obtain ⟨y2, x2, rfl⟩ := hin 2 rfl (by omega) rfl
      refine if_always rfl ?_
      exact op_fn1 _ _ _ _ rfl rfl (eval_tmp x2) (by intro args w; kernel_rfl) (of_ev Lb HLLb.out hbLb Hnb.out _) hK
    · cases hA
    · cases hA
  · intro i o sz hi ho hA
    have hc : i = 0 ∨ i = 1 ∨ i = 2 ∨ i = 3 ∨ i = 4 ∨ i = 5 := by omega
    rcases hc with rfl | rfl | rfl | rfl | rfl | rfl
    · cases hA
    · cases hA
    · cases hA
    · cases hA
    · obtain rfl := Option.some.inj ho
      obtain rfl := Option.some.inj hA
      exact ⟨rfl, rfl, 26, #[.int .u64 0, .int .u64 0, .int .u64 0, .int .u64 0, .int .u64 0], rfl, fun a w' K h => wp_new 26 #[.int .u64 0, .int .u64 0, .int .u64 0, .int .u64 0, .int .u64 0] (fun w => by kernel_rfl) h⟩
    · obtain rfl := Option.some.inj ho
      obtain rfl := Option.some.inj hA
      exact ⟨rfl, rfl, 26, #[.int .u64 0, .int .u64 0, .int .u64 0, .int .u64 0, .int .u64 0], rfl, fun a w' K h => wp_new 26 #[.int .u64 0, .int .u64 0, .int .u64 0, .int .u64 0, .int .u64 0] (fun w => by kernel_rfl) h⟩
  clear hS
  intro t1 V1 hs hold hout hall hne hS
  replace HS := hs.trans HS
  obtain ⟨gx, h7, b7, r7⟩ : ∃ g, t1[7]? = some (.pointer (some ⟨g, 0, none⟩)) ∧ M ≤ g ∧ RowAt 5 g V1 := by
    obtain ⟨g, p1, p2, ty, cs, p3, p4⟩ := hall 4 (by omega) 5 rfl
    exact ⟨g, p1, p2, cs, ty, p3, p4⟩
  obtain ⟨gy, h8, b8, r8⟩ : ∃ g, t1[8]? = some (.pointer (some ⟨g, 0, none⟩)) ∧ M ≤ g ∧ RowAt 5 g V1 := by
    obtain ⟨g, p1, p2, ty, cs, p3, p4⟩ := hall 5 (by omega) 5 rfl
    exact ⟨g, p1, p2, cs, ty, p3, p4⟩
  have n7_8 : gx ≠ gy := fun h => hne 4 5 (by omega) (by omega) (by omega) rfl rfl (show t1[7]? = t1[8]? by rw [h7, h8, h])
  obtain ⟨x19, q19, v19⟩ : ∃ x, t1[19]? = some x ∧ (IsEl na) x := hout 1 (by omega) rfl
  obtain ⟨x21, q21, v21⟩ : ∃ x, t1[21]? = some x ∧ (IsEl nb) x := hout 3 (by omega) rfl
  replace h3 := (hold 3 (slots_not (by kernel_rfl))).trans h3
  replace h4 := (hold 4 (slots_not (by kernel_rfl))).trans h4
  replace h2 := (hold 2 (slots_not (by kernel_rfl))).trans h2
  clear hold hout hall hne hs
  simp only [List.drop_succ_cons, List.drop_zero]
  have bb := Below.refl M V1
  refine st_el rfl (.tmp 7) (.tmp 19) rfl rfl _ _ (eval_tmp h7) (eval_tmp q19) v19 r7 fun V1' e7 p7 => ?_
  replace bb := bb.trans (p7.2.mono b7)
  replace r8 := r8.of_eq (p7.1 _ (Ne.symm n7_8))
  refine st_el rfl (.tmp 8) (.tmp 21) rfl rfl _ _ (eval_tmp h8) (eval_tmp q21) v21 r8 fun V1'' e8 p8 => ?_
  replace bb := bb.trans (p8.2.mono b8)
  replace e7 := e7.of_eq (p8.1 _ n7_8)
  refine wpList_nil ?_
  have hS2 : BytesAt La w.heap.size V1'' ∧ BytesAt Lb (w.heap.size + 1) V1'' ∧ ElAt na gx V1'' ∧ ElAt nb gy V1'' ∧ Below w.heap.size w V1'' := ⟨(hS.1).under bb lt0, (hS.2.1).under bb lt1, e7, e8, (hS.2.2.1).trans (bb.mono hMB)⟩
  obtain ⟨f, e0, hf⟩ := wash HS
  have f3 := hf 3 _ h3
  have f4 := hf 4 _ h4
  have f2 := hf 2 _ h2
  have f7 := hf 7 _ h7
  have f8 := hf 8 _ h8
  clear hf
  rw [e0.trans (show _ = #[f 0, f 1, f 2, f 3, f 4, f 5, f 6, f 7, f 8, f 9, f 10, f 11, f 12, f 13, f 14, f 15, f 16, f 17, f 18, f 19, f 20, f 21, f 22, f 23, f 24, f 25, f 26, f 27, f 28, f 29, f 30, f 31, f 32, f 33, f 34, f 35, f 36, f 37, f 38, f 39, f 40, f 41, f 42, f 43, f 44, f 45, f 46, f 47, f 48, f 49, f 50, f 51, f 52, f 53, f 54, f 55, f 56, f 57, f 58, f 59, f 60, f 61, f 62, f 63, f 64, f 65, f 66, f 67, f 68, f 69, f 70, f 71, f 72, f 73, f 74, f 75, f 76, f 77, f 78, f 79, f 80, f 81, f 82, f 83, f 84, f 85, f 86, f 87, f 88, f 89, f 90, f 91, f 92, f 93, f 94, f 95, f 96, f 97, f 98, f 99, f 100, f 101, f 102, f 103, f 104, f 105, f 106, f 107, f 108, f 109, f 110, f 111, f 112, f 113, f 114, f 115, f 116, f 117, f 118, f 119, f 120, f 121, f 122, f 123, f 124, f 125, f 126] from by kernel_rfl), f3, f4, f2, f7, f8]
  clear f3 f4 f2 f7 f8
  clear e0
  dsimp only
  clear hS
  have hS := hS2
  clear hS2
  clear h3 h4 h2 h7 h8 p7 p8 r7 r8 b7 b8 e7 e8 n7_8 v19 v21 q19 q21 lt0 lt1 hMB bb HS t1 t0 hM M
  replace hS := hS.2.2
  have hm := HM.out
  go_wp2_with fail
  obtain ⟨mx, hmx, hmr⟩ : ∃ x : Int, bits .xor .u64 m 1 = x ∧ (0 ≤ x ∧ x < 18446744073709551616) := ⟨_, rfl, xor1_range m hm⟩
  rw [hmx]
  have RW := row_new (w := V1'') (x := .cells #[.int .u64 0, .int .u64 18446744073709551615, .int .u64 m, .int .u64 mx] 23)
  have hS1 : ElAt na gx (V1''.alloc (.cells #[.int .u64 0, .int .u64 18446744073709551615, .int .u64 m, .int .u64 mx] 23)) ∧ ElAt nb gy (V1''.alloc (.cells #[.int .u64 0, .int .u64 18446744073709551615, .int .u64 m, .int .u64 mx] 23)) ∧ WordsAt [0, 18446744073709551615, m, mx] V1''.heap.size (V1''.alloc (.cells #[.int .u64 0, .int .u64 18446744073709551615, .int .u64 m, .int .u64 mx] 23)) ∧ Below w.heap.size w (V1''.alloc (.cells #[.int .u64 0, .int .u64 18446744073709551615, .int .u64 m, .int .u64 mx] 23)) := ⟨hS.1.keep ((Below.refl _ _).alloc (Nat.le_refl _) _), hS.2.1.keep ((Below.refl _ _).alloc (Nat.le_refl _) _), ⟨_, RW⟩, hS.2.2.alloc hS.2.2.size _⟩
  have HR := Lib.hid (words_range m mx (by omega) hmr)
  clear RW hS hmx
  generalize V1''.alloc (.cells #[.int .u64 0, .int .u64 18446744073709551615, .int .u64 m, .int .u64 mx] 23) = Wm at hS1 ⊢
  generalize V1''.heap.size = gm at hS1 ⊢
  have HL := Lib.hid (show ([0, 18446744073709551615, (m : Int), mx] : List Int).length = 4 from rfl)
  generalize ([0, 18446744073709551615, (m : Int), mx] : List Int) = MS at hS1 HL HR
  go_loopw [10] (fun i wr => ∃ k : Nat, k ≤ 4 ∧ i = .int .i64 k ∧ ElAt na gx wr ∧ ElAt nb gy wr ∧ WordsAt MS gm wr ∧ Below w.heap.size w wr) (fun i _ => 4 - (intOf i).toNat)
  case atStart => exact ⟨0, by omega, rfl, hS1⟩
  case round =>
    obtain ⟨k, hk, rfl, hS⟩ := hrel
    clear hS1
    by_cases hlt : k < 4
    · obtain ⟨v, hv⟩ : ∃ v, nth MS k = v := ⟨_, rfl⟩
      have hvr := HR.out k hlt
      rw [hv] at hvr
      have HV := Lib.hid hv
      clear hv
      go_wp2_with fail
      by_cases hb : v % 2 = 1
      · obtain ⟨M, hM⟩ : ∃ M, M = wr.heap.size := ⟨_, rfl⟩
        have hMB : w.heap.size ≤ M := hM ▸ (hS.2.2.2).size
        have lt0 := (hS.1).lt
        have lt1 := (hS.2.1).lt
        have lt2 := (hS.2.2.1).lt
        rw [← hM] at lt0 lt1 lt2
        refine hide_frame fun t0 HT => ?_
        have HS : t0.size = 127 := by rw [HT]; rfl
        have h7 : t0[7]? = some (.pointer (some ⟨gx, 0, none⟩)) := by rw [HT]; rfl
        have h8 : t0[8]? = some (.pointer (some ⟨gy, 0, none⟩)) := by rw [HT]; rfl
        have h9 : t0[9]? = some (.slice (some ⟨gm, 0, none⟩) 4 4) := by rw [HT]; rfl
        have h10 : t0[10]? = some (.int .i64 (k : Nat)) := by rw [HT]; rfl
        refine wp_region_st1 12 10 8 (fun i => [33, 34, 35, 36, 37, 38, 39, 32, 40, 41, 11, 12].getD i 0) (fun i => [none, none, none, none, none, none, none, none, none, none, some 5, some 5].getD i none) (fun i => [(· = .slice (some ⟨gm, 0, none⟩) 4 4), (· = .int .i64 (k : Nat)), (· = .pointer (some ⟨gm, k, none⟩)), (· = .int .u64 v), IsEl na, IsEl nb, IsEl2 (selF true nb na) (selF true na nb), IsEl2 (selF true nb na) (selF true na nb), IsEl (selF true nb na), IsEl (selF true na nb), (fun _ => True), (fun _ => True)].getD i (fun _ => True)) (fun w' => ElAt na gx w' ∧ ElAt nb gy w' ∧ WordsAt MS gm w' ∧ Below w.heap.size w w' ∧ M ≤ w'.heap.size) M 5 26
          (by kernel_rfl) (by kernel_rfl) (slots_apart (by kernel_rfl)) (slots_lie (by rw [HS]; kernel_rfl)) ⟨hS.1, hS.2.1, hS.2.2.1, (hS.2.2.2).drew, Nat.le_of_eq hM⟩ (fun w' h => h.2.2.2.2) (fun w1 w2 h b => ⟨(h.1).keep b, (h.2.1).keep b, (h.2.2.1).keep b, below_call b h.2.2.2.1, Nat.le_trans h.2.2.2.2 b.size⟩) (fun w1 g cs h hg => ⟨(h.1).of_eq (setRow_other w1 g _ cs (Nat.ne_of_lt (Nat.lt_of_lt_of_le lt0 hg))), (h.2.1).of_eq (setRow_other w1 g _ cs (Nat.ne_of_lt (Nat.lt_of_lt_of_le lt1 hg))), (h.2.2.1).of_eq (setRow_other w1 g _ cs (Nat.ne_of_lt (Nat.lt_of_lt_of_le lt2 hg))), below_setRow h.2.2.2.1 (Nat.le_trans hMB hg) cs, by simpa [World.setRow] using h.2.2.2.2⟩) (by omega) (by omega) rfl rfl tElem (fun x (hx : IsEl (selF true nb na) x) => el_row hx) (fun o ho => by obtain rfl := Option.some.inj ho; exact ⟨rfl, rfl, rfl, rfl, rfl⟩) ?_ ?_ ?_
        · clear hS
          intro i o hi ho hA
          have hc : i = 0 ∨ i = 1 ∨ i = 2 ∨ i = 3 ∨ i = 4 ∨ i = 5 ∨ i = 6 ∨ i = 7 ∨ i = 8 ∨ i = 9 ∨ i = 10 ∨ i = 11 := by omega
          rcases hc with rfl | rfl | rfl | rfl | rfl | rfl | rfl | rfl | rfl | rfl | rfl | rfl
          · obtain rfl := Option.some.inj ho
            refine ⟨rfl, fun a w' hS hold hin K hK => ?_⟩
            refine if_always rfl ?_
            exact op_move (V := (· = .slice (some ⟨gm, 0, none⟩) 4 4)) _ _ rfl rfl (eval_tmp ((hold 9 (slots_not (by kernel_rfl))).trans h9)) rfl hK
          · obtain rfl := Option.some.inj ho
            refine ⟨rfl, fun a w' hS hold hin K hK => ?_⟩
            refine if_always rfl ?_
            exact op_move (V := (· = .int .i64 (k : Nat))) _ _ rfl rfl (eval_tmp ((hold 10 (slots_not (by kernel_rfl))).trans h10)) rfl hK
          · obtain rfl := Option.some.inj ho
            refine ⟨rfl, fun a w' hS hold hin K hK => ?_⟩
            obtain ⟨y0, x0, rfl⟩ := hin 0 rfl (by omega) rfl
            obtain ⟨y1, x1, rfl⟩ := hin 1 rfl (by omega) rfl
            refine if_always rfl ?_
            exact op_word4 _ _ rfl rfl gm k hlt (eval_tmp x0) (eval_tmp x1) hK
          · obtain rfl := Option.some.inj ho
            refine ⟨rfl, fun a w' hS hold hin K hK => ?_⟩
            obtain ⟨y2, x2, rfl⟩ := hin 2 rfl (by omega) rfl
            refine if_always rfl ?_
            exact op_word _ rfl rfl gm k (eval_tmp x2) hS.2.2.1 (by rw [HL.out]; exact hlt) v HV.out hK
          · obtain rfl := Option.some.inj ho
            refine ⟨rfl, fun a w' hS hold hin K hK => ?_⟩
            refine if_always rfl ?_
            exact op_ld_el (.tmp 7) rfl rfl _ (eval_tmp ((hold 7 (slots_not (by kernel_rfl))).trans h7)) hS.1 hK
          · obtain rfl := Option.some.inj ho
            refine ⟨rfl, fun a w' hS hold hin K hK => ?_⟩
            refine if_always rfl ?_
            exact op_ld_el (.tmp 8) rfl rfl _ (eval_tmp ((hold 8 (slots_not (by kernel_rfl))).trans h8)) hS.2.1 hK
          · obtain rfl := Option.some.inj ho
            refine ⟨rfl, fun a w' hS hold hin K hK => ?_⟩
            obtain ⟨y3, x3, rfl⟩ := hin 3 rfl (by omega) rfl
            obtain ⟨y4, x4, (v4 : IsEl na y4)⟩ := hin 4 rfl (by omega) rfl
            obtain ⟨y5, x5, (v5 : IsEl nb y5)⟩ := hin 5 rfl (by omega) rfl
            refine if_always rfl ?_
            exact op_fn3 _ _ _ _ _ _ _ _ rfl rfl (eval_tmp x3) (eval_tmp x4) (eval_tmp x5) (by intro args w; kernel_rfl) (swap_ev true ⟨hvr, decide_eq_true hb⟩ v4 v5 _) hK
          · obtain rfl := Option.some.inj ho
            refine ⟨rfl, fun a w' hS hold hin K hK => ?_⟩
            obtain ⟨y6, x6, (v6 : IsEl2 (selF true nb na) (selF true na nb) y6)⟩ := hin 6 rfl (by omega) rfl
            refine if_always rfl ?_
            exact op_move (V := IsEl2 (selF true nb na) (selF true na nb)) _ _ rfl rfl (eval_tmp x6) v6 hK
          · obtain rfl := Option.some.inj ho
            refine ⟨rfl, fun a w' hS hold hin K hK => ?_⟩
            obtain ⟨y7, x7, (v7 : IsEl2 (selF true nb na) (selF true na nb) y7)⟩ := hin 7 rfl (by omega) rfl
            refine if_always rfl ?_
            exact op_ext0 _ rfl rfl (eval_tmp x7) v7 hK
          · obtain rfl := Option.some.inj ho
            refine ⟨rfl, fun a w' hS hold hin K hK => ?_⟩
            obtain ⟨y7, x7, (v7 : IsEl2 (selF true nb na) (selF true na nb) y7)⟩ := hin 7 rfl (by omega) rfl
            refine if_always rfl ?_
            exact op_ext1 _ rfl rfl (eval_tmp x7) v7 hK
          · cases hA
          · cases hA
        · intro i o sz hi ho hA
          have hc : i = 0 ∨ i = 1 ∨ i = 2 ∨ i = 3 ∨ i = 4 ∨ i = 5 ∨ i = 6 ∨ i = 7 ∨ i = 8 ∨ i = 9 ∨ i = 10 ∨ i = 11 := by omega
          rcases hc with rfl | rfl | rfl | rfl | rfl | rfl | rfl | rfl | rfl | rfl | rfl | rfl
          · cases hA
          · cases hA
          · cases hA
          · cases hA
          · cases hA
          · cases hA
          · cases hA
          · cases hA
          · cases hA
          · cases hA
          · obtain rfl := Option.some.inj ho
            obtain rfl := Option.some.inj hA
            exact ⟨rfl, rfl, 26, #[.int .u64 0, .int .u64 0, .int .u64 0, .int .u64 0, .int .u64 0], rfl, fun a w' K h => wp_new 26 #[.int .u64 0, .int .u64 0, .int .u64 0, .int .u64 0, .int .u64 0] (fun w => by kernel_rfl) h⟩
          · obtain rfl := Option.some.inj ho
            obtain rfl := Option.some.inj hA
            exact ⟨rfl, rfl, 26, #[.int .u64 0, .int .u64 0, .int .u64 0, .int .u64 0, .int .u64 0], rfl, fun a w' K h => wp_new 26 #[.int .u64 0, .int .u64 0, .int .u64 0, .int .u64 0, .int .u64 0] (fun w => by kernel_rfl) h⟩
        clear hS
        intro t1 V2 hs hold hout hall hne hst1 hS
        have ef := frame_fill 12 (fun i => [33, 34, 35, 36, 37, 38, 39, 32, 40, 41, 11, 12].getD i 0) hs hold (slots_apart (by kernel_rfl)) (slots_lie (by rw [HS]; kernel_rfl))
        replace HS := hs.trans HS
        obtain ⟨gp, ty1, cs1, h11, q1x, rr1⟩ : ∃ g t' cs, t1[11]? = some (.pointer (some ⟨g, 0, none⟩)) ∧ t1[40]? = some (.agg cs) ∧ V2.heap[g]? = some (.cells cs t' (0, 0)) := hst1
        have b11 : M ≤ gp := by
          obtain ⟨g', p1, p2, _⟩ := hall 10 (by omega) 5 rfl
          have p1' : t1[11]? = some (.pointer (some ⟨g', 0, none⟩)) := p1
          rw [ptr_inj (h11.symm.trans p1')]; exact p2
        have e11 : ElAt (selF true nb na) gp V2 := by
          obtain ⟨x', y1, y2⟩ : ∃ x, t1[40]? = some x ∧ (IsEl (selF true nb na)) x := hout 8 (by omega) rfl
          exact el_stored y2 (y1.symm.trans q1x) rr1
        obtain ⟨gq, h12, b12, r12⟩ : ∃ g, t1[12]? = some (.pointer (some ⟨g, 0, none⟩)) ∧ M ≤ g ∧ RowAt 5 g V2 := by
          obtain ⟨g, p1, p2, ty, cs, p3, p4⟩ := hall 11 (by omega) 5 rfl
          exact ⟨g, p1, p2, cs, ty, p3, p4⟩
        have n11_12 : gp ≠ gq := fun h => hne 10 11 (by omega) (by omega) (by omega) rfl rfl (show t1[11]? = t1[12]? by rw [h11, h12, h])
        obtain ⟨x41, q41, v41⟩ : ∃ x, t1[41]? = some x ∧ (IsEl (selF true na nb)) x := hout 9 (by omega) rfl
        replace h7 := (hold 7 (slots_not (by kernel_rfl))).trans h7
        replace h8 := (hold 8 (slots_not (by kernel_rfl))).trans h8
        replace h9 := (hold 9 (slots_not (by kernel_rfl))).trans h9
        replace h10 := (hold 10 (slots_not (by kernel_rfl))).trans h10
        clear hold hout hall hne hs
        simp only [List.drop_succ_cons, List.drop_zero]
        have bb := Below.refl M V2
        refine st_el rfl (.tmp 12) (.tmp 41) rfl rfl _ _ (eval_tmp h12) (eval_tmp q41) v41 r12 fun V2' e12 p12 => ?_
        replace bb := bb.trans (p12.2.mono b12)
        replace e11 := e11.of_eq (p12.1 _ n11_12)
        refine wpList_nil ?_
        have hS2 : ElAt na gx V2' ∧ ElAt nb gy V2' ∧ WordsAt MS gm V2' ∧ ElAt (selF true nb na) gp V2' ∧ ElAt (selF true na nb) gq V2' ∧ Below w.heap.size w V2' := ⟨(hS.1).under bb lt0, (hS.2.1).under bb lt1, (hS.2.2.1).under bb lt2, e11, e12, (hS.2.2.2.1).trans (bb.mono hMB)⟩
        have g11 : t1.getD 11 undef = .pointer (some ⟨gp, 0, none⟩) := by rw [Array.getD_eq_getD_getElem?, h11]; rfl
        have g12 : t1.getD 12 undef = .pointer (some ⟨gq, 0, none⟩) := by rw [Array.getD_eq_getD_getElem?, h12]; rfl
        rw [ef, HT]
        clear ef
        simp only [fillA, if_true, List.getD_cons_zero, List.getD_cons_succ, List.setIfInBounds_toArray, List.set_cons_zero, List.set_cons_succ, g11, g12]
        generalize t1.getD 33 undef = z33
        generalize t1.getD 34 undef = z34
        generalize t1.getD 35 undef = z35
        generalize t1.getD 36 undef = z36
        generalize t1.getD 37 undef = z37
        generalize t1.getD 38 undef = z38
        generalize t1.getD 39 undef = z39
        generalize t1.getD 32 undef = z32
        generalize t1.getD 40 undef = z40
        generalize t1.getD 41 undef = z41
        clear g11 g12 HT
        clear hS
        have hS := hS2
        clear hS2
        clear h7 h8 h9 h10 h11 h12 p12 r12 rr1 q1x hst1 b11 b12 e11 e12 n11_12 v41 q41 lt0 lt1 lt2 hMB bb HS t1 t0 hM M
        go_wp2_with ((with_reducible refine guard_list ?_); first | (refine held_load 26 _ rfl ?_) | (refine held_load 22 _ rfl ?_))
        obtain ⟨M, hM⟩ : ∃ M, M = V2'.heap.size := ⟨_, rfl⟩
        have hMB : w.heap.size ≤ M := hM ▸ (hS.2.2.2.2.2).size
        have lt0 := (hS.1).lt
        have lt1 := (hS.2.1).lt
        have lt2 := (hS.2.2.1).lt
        have lt3 := (hS.2.2.2.1).lt
        have lt4 := (hS.2.2.2.2.1).lt
        rw [← hM] at lt0 lt1 lt2 lt3 lt4
        refine hide_frame fun t0 HT => ?_
        have HS : t0.size = 127 := by rw [HT]; rfl
        have h7 : t0[7]? = some (.pointer (some ⟨gx, 0, none⟩)) := by rw [HT]; rfl
        have h8 : t0[8]? = some (.pointer (some ⟨gy, 0, none⟩)) := by rw [HT]; rfl
        have h9 : t0[9]? = some (.slice (some ⟨gm, 0, none⟩) 4 4) := by rw [HT]; rfl
        have h10 : t0[10]? = some (.int .i64 (k : Nat)) := by rw [HT]; rfl
        have h11 : t0[11]? = some (.pointer (some ⟨gp, 0, none⟩)) := by rw [HT]; rfl
        have h12 : t0[12]? = some (.pointer (some ⟨gq, 0, none⟩)) := by rw [HT]; rfl
        refine wp_region_most 8 (fun i => [42, 43, 44, 45, 46, 47, 48, 13].getD i 0) (fun i => [none, none, none, none, none, none, none, some 5].getD i none) (fun i => [(· = .slice (some ⟨gm, 0, none⟩) 4 4), (· = .int .i64 (k : Nat)), (· = .pointer (some ⟨gm, k, none⟩)), (· = .int .u64 v), IsEl na, IsEl nb, IsEl (selF true na nb), (fun _ => True)].getD i (fun _ => True)) (fun w' => ElAt na gx w' ∧ ElAt nb gy w' ∧ WordsAt MS gm w' ∧ ElAt (selF true nb na) gp w' ∧ ElAt (selF true na nb) gq w' ∧ Below w.heap.size w w' ∧ M ≤ w'.heap.size) M
          (by kernel_rfl) (by kernel_rfl) (slots_apart (by kernel_rfl)) (slots_lie (by rw [HS]; kernel_rfl)) ⟨hS.1, hS.2.1, hS.2.2.1, hS.2.2.2.1, hS.2.2.2.2.1, (hS.2.2.2.2.2).drew, Nat.le_of_eq hM⟩ (fun w' h => h.2.2.2.2.2.2) (fun w1 w2 h b => ⟨(h.1).keep b, (h.2.1).keep b, (h.2.2.1).keep b, (h.2.2.2.1).keep b, (h.2.2.2.2.1).keep b, below_call b h.2.2.2.2.2.1, Nat.le_trans h.2.2.2.2.2.2 b.size⟩) ?_ ?_ ?_
        · clear hS
          intro i o hi ho hA
          have hc : i = 0 ∨ i = 1 ∨ i = 2 ∨ i = 3 ∨ i = 4 ∨ i = 5 ∨ i = 6 ∨ i = 7 := by omega
          rcases hc with rfl | rfl | rfl | rfl | rfl | rfl | rfl | rfl
          · obtain rfl := Option.some.inj ho
            refine ⟨rfl, fun a w' hS hold hin K hK => ?_⟩
            refine if_always rfl ?_
            exact op_move (V := (· = .slice (some ⟨gm, 0, none⟩) 4 4)) _ _ rfl rfl (eval_tmp ((hold 9 (slots_not (by kernel_rfl))).trans h9)) rfl hK
          · obtain rfl := Option.some.inj ho
            refine ⟨rfl, fun a w' hS hold hin K hK => ?_⟩
            refine if_always rfl ?_
            exact op_move (V := (· = .int .i64 (k : Nat))) _ _ rfl rfl (eval_tmp ((hold 10 (slots_not (by kernel_rfl))).trans h10)) rfl hK
          · obtain rfl := Option.some.inj ho
            refine ⟨rfl, fun a w' hS hold hin K hK => ?_⟩
            obtain ⟨y0, x0, rfl⟩ := hin 0 rfl (by omega) rfl
            obtain ⟨y1, x1, rfl⟩ := hin 1 rfl (by omega) rfl
            refine if_always rfl ?_
            exact op_word4 _ _ rfl rfl gm k hlt (eval_tmp x0) (eval_tmp x1) hK
          · obtain rfl := Option.some.inj ho
            refine ⟨rfl, fun a w' hS hold hin K hK => ?_⟩
            obtain ⟨y2, x2, rfl⟩ := hin 2 rfl (by omega) rfl
            refine if_always rfl ?_
            exact op_word _ rfl rfl gm k (eval_tmp x2) hS.2.2.1 (by rw [HL.out]; exact hlt) v HV.out hK
          · obtain rfl := Option.some.inj ho
            refine ⟨rfl, fun a w' hS hold hin K hK => ?_⟩
            refine if_always rfl ?_
            exact op_ld_el (.tmp 7) rfl rfl _ (eval_tmp ((hold 7 (slots_not (by kernel_rfl))).trans h7)) hS.1 hK
          · obtain rfl := Option.some.inj ho
            refine ⟨rfl, fun a w' hS hold hin K hK => ?_⟩
            refine if_always rfl ?_
            exact op_ld_el (.tmp 8) rfl rfl _ (eval_tmp ((hold 8 (slots_not (by kernel_rfl))).trans h8)) hS.2.1 hK
          · obtain rfl := Option.some.inj ho
            refine ⟨rfl, fun a w' hS hold hin K hK => ?_⟩
            obtain ⟨y3, x3, rfl⟩ := hin 3 rfl (by omega) rfl
            obtain ⟨y4, x4, (v4 : IsEl na y4)⟩ := hin 4 rfl (by omega) rfl
            obtain ⟨y5, x5, (v5 : IsEl nb y5)⟩ := hin 5 rfl (by omega) rfl
            refine if_always rfl ?_
            exact op_fn3 _ _ _ _ _ _ _ _ rfl rfl (eval_tmp x3) (eval_tmp x4) (eval_tmp x5) (by intro args w; kernel_rfl) (pick_ev true ⟨hvr, decide_eq_true hb⟩ v4 v5 _) hK
          · cases hA
        · intro i o sz hi ho hA
          have hc : i = 0 ∨ i = 1 ∨ i = 2 ∨ i = 3 ∨ i = 4 ∨ i = 5 ∨ i = 6 ∨ i = 7 := by omega
          rcases hc with rfl | rfl | rfl | rfl | rfl | rfl | rfl | rfl
          · cases hA
          · cases hA
          · cases hA
          · cases hA
          · cases hA
          · cases hA
          · cases hA
          · obtain rfl := Option.some.inj ho
            obtain rfl := Option.some.inj hA
            exact ⟨rfl, rfl, 26, #[.int .u64 0, .int .u64 0, .int .u64 0, .int .u64 0, .int .u64 0], rfl, fun a w' K h => wp_new 26 #[.int .u64 0, .int .u64 0, .int .u64 0, .int .u64 0, .int .u64 0] (fun w => by kernel_rfl) h⟩
        clear hS
        intro t1 V3 hs hold hout hall hne hS
        have ef := frame_fill 8 (fun i => [42, 43, 44, 45, 46, 47, 48, 13].getD i 0) hs hold (slots_apart (by kernel_rfl)) (slots_lie (by rw [HS]; kernel_rfl))
        replace HS := hs.trans HS
        obtain ⟨gr, h13, b13, r13⟩ : ∃ g, t1[13]? = some (.pointer (some ⟨g, 0, none⟩)) ∧ M ≤ g ∧ RowAt 5 g V3 := by
          obtain ⟨g, p1, p2, ty, cs, p3, p4⟩ := hall 7 (by omega) 5 rfl
          exact ⟨g, p1, p2, cs, ty, p3, p4⟩
        obtain ⟨x48, q48, v48⟩ : ∃ x, t1[48]? = some x ∧ (IsEl (selF true na nb)) x := hout 6 (by omega) rfl
        replace h7 := (hold 7 (slots_not (by kernel_rfl))).trans h7
        replace h8 := (hold 8 (slots_not (by kernel_rfl))).trans h8
        replace h9 := (hold 9 (slots_not (by kernel_rfl))).trans h9
        replace h10 := (hold 10 (slots_not (by kernel_rfl))).trans h10
        replace h11 := (hold 11 (slots_not (by kernel_rfl))).trans h11
        replace h12 := (hold 12 (slots_not (by kernel_rfl))).trans h12
        clear hold hout hall hne hs
        simp only [List.drop_succ_cons, List.drop_zero]
        have bb := Below.refl M V3
        refine st_el rfl (.tmp 13) (.tmp 48) rfl rfl _ _ (eval_tmp h13) (eval_tmp q48) v48 r13 fun V3' e13 p13 => ?_
        replace bb := bb.trans (p13.2.mono b13)
        refine wpList_nil ?_
        have hS2 : ElAt na gx V3' ∧ ElAt nb gy V3' ∧ WordsAt MS gm V3' ∧ ElAt (selF true nb na) gp V3' ∧ ElAt (selF true na nb) gq V3' ∧ ElAt (selF true na nb) gr V3' ∧ Below w.heap.size w V3' := ⟨(hS.1).under bb lt0, (hS.2.1).under bb lt1, (hS.2.2.1).under bb lt2, (hS.2.2.2.1).under bb lt3, (hS.2.2.2.2.1).under bb lt4, e13, (hS.2.2.2.2.2.1).trans (bb.mono hMB)⟩
        have g13 : t1.getD 13 undef = .pointer (some ⟨gr, 0, none⟩) := by rw [Array.getD_eq_getD_getElem?, h13]; rfl
        rw [ef, HT]
        clear ef
        simp only [fillA, if_true, List.getD_cons_zero, List.getD_cons_succ, List.setIfInBounds_toArray, List.set_cons_zero, List.set_cons_succ, g13]
        generalize t1.getD 42 undef = z42
        generalize t1.getD 43 undef = z43
        generalize t1.getD 44 undef = z44
        generalize t1.getD 45 undef = z45
        generalize t1.getD 46 undef = z46
        generalize t1.getD 47 undef = z47
        generalize t1.getD 48 undef = z48
        clear g13 HT
        clear hS
        have hS := hS2
        clear hS2
        clear h7 h8 h9 h10 h11 h12 h13 p13 r13 b13 e13 v48 q48 lt0 lt1 lt2 lt3 lt4 hMB bb HS t1 t0 hM M
        obtain ⟨tM, RM⟩ := hS.2.2.1
        have cM := (row_cell RM k).trans (valsK_get (by rw [HL.out]; exact hlt))
        rw [HV.out] at cM
        have hmod : (v.tmod 2 == 1) = true := by rw [Int.tmod_eq_emod_of_nonneg hvr.1]; simp [hb]
        have hS' := Lib.hid hS
        clear hS RM
        go_wp2_with ((with_reducible refine guard_list ?_); first | (refine held_load 26 _ rfl ?_) | (refine held_load 22 _ rfl ?_))
        have hS := hS'.out
        clear hS' cM hmod
        obtain ⟨M, hM⟩ : ∃ M, M = V3'.heap.size := ⟨_, rfl⟩
        have lt0 := (hS.1).lt
        have lt1 := (hS.2.1).lt
        have lt2 := (hS.2.2.1).lt
        have lt3 := (hS.2.2.2.1).lt
        have lt4 := (hS.2.2.2.2.1).lt
        have lt5 := (hS.2.2.2.2.2.1).lt
        rw [← hM] at lt0 lt1 lt2 lt3 lt4 lt5
        refine hide_held fun t0 HT => ?_
        have HS : t0.size = 127 := by rw [HT]; rfl
        have h7 : t0[7]? = some (.pointer (some ⟨gx, 0, none⟩)) := by rw [HT]; rfl
        have h8 : t0[8]? = some (.pointer (some ⟨gy, 0, none⟩)) := by rw [HT]; rfl
        have h9 : t0[9]? = some (.slice (some ⟨gm, 0, none⟩) 4 4) := by rw [HT]; rfl
        have h10 : t0[10]? = some (.int .i64 (k : Nat)) := by rw [HT]; rfl
        have h11 : t0[11]? = some (.pointer (some ⟨gp, 0, none⟩)) := by rw [HT]; rfl
        have h12 : t0[12]? = some (.pointer (some ⟨gq, 0, none⟩)) := by rw [HT]; rfl
        have h13 : t0[13]? = some (.pointer (some ⟨gr, 0, none⟩)) := by rw [HT]; rfl
        refine wp_from_all 49 (fun i => [49, 50, 51, 52, 53, 54, 55, 56, 57, 58, 59, 60, 61, 62, 63, 64, 65, 66, 67, 68, 69, 70, 71, 72, 73, 74, 75, 76, 77, 78, 79, 80, 81, 82, 83, 84, 85, 86, 87, 88, 89, 90, 91, 92, 93, 94, 95, 96, 97, 98].getD i 0) (fun i => [(fun _ => True), (fun _ => True), (fun _ => True), (fun _ => True), (fun _ => True), (fun _ => True), (· = .bool true), IsEl (selF true nb na), IsEl nb, (· = .bool true), (· = .bool false), (· = .bool false), IsEl (selF true na nb), IsEl na, (· = .bool true), (· = .bool false), (· = .bool false), (· = .bool false), IsEl (selF true na nb), IsEl na, (· = .bool true), (· = .bool false), (· = .bool false), (· = .bool false), (· = .bool false), (· = .slice (some ⟨gm, 0, none⟩) 4 4), (· = .int .i64 (k : Nat)), (· = .pointer (some ⟨gm, k, none⟩)), (· = .int .u64 v), (· = .int .u64 1), (· = .bool false), (· = .bool false), (· = undef), (· = undef), (· = undef), (· = undef), (· = undef), (· = undef), (· = undef), (· = undef), (· = undef), (· = undef), (· = undef), (· = undef), (· = undef), (· = undef), (· = undef), (· = undef), (· = .bool false), (· = .bool false)].getD i (fun _ => True)) (fun w' => ElAt na gx w' ∧ ElAt nb gy w' ∧ WordsAt MS gm w' ∧ ElAt (selF true nb na) gp w' ∧ ElAt (selF true na nb) gq w' ∧ ElAt (selF true na nb) gr w' ∧ Below w.heap.size w w' ∧ M ≤ w'.heap.size)
          7 (by omega) (by kernel_rfl) ?_ (by kernel_rfl) (slots_apart (by kernel_rfl)) (slots_lie (by rw [HS]; kernel_rfl)) ⟨hS.1, hS.2.1, hS.2.2.1, hS.2.2.2.1, hS.2.2.2.2.1, hS.2.2.2.2.2.1, hS.2.2.2.2.2.2, Nat.le_of_eq hM⟩ (fun w1 w2 h b => ⟨(h.1).keep b, (h.2.1).keep b, (h.2.2.1).keep b, (h.2.2.2.1).keep b, (h.2.2.2.2.1).keep b, (h.2.2.2.2.2.1).keep b, below_call b h.2.2.2.2.2.2.1, Nat.le_trans h.2.2.2.2.2.2.2 b.size⟩) ?_ ?_
        · intro j hj
          have hc : j = 0 ∨ j = 1 ∨ j = 2 ∨ j = 3 ∨ j = 4 ∨ j = 5 ∨ j = 6 := by omega
          rcases hc with rfl | rfl | rfl | rfl | rfl | rfl | rfl
          · exact ⟨_, by rw [HT]; rfl, trivial⟩
          · exact ⟨_, by rw [HT]; rfl, trivial⟩
          · exact ⟨_, by rw [HT]; rfl, trivial⟩
          · exact ⟨_, by rw [HT]; rfl, trivial⟩
          · exact ⟨_, by rw [HT]; rfl, trivial⟩
          · exact ⟨_, by rw [HT]; rfl, trivial⟩
          · exact ⟨_, by rw [HT]; rfl, rfl⟩
        · clear hS
          intro i o h0i hi ho
          have hc : i = 7 ∨ i = 8 ∨ i = 9 ∨ i = 10 ∨ i = 11 ∨ i = 12 ∨ i = 13 ∨ i = 14 ∨ i = 15 ∨ i = 16 ∨ i = 17 ∨ i = 18 ∨ i = 19 ∨ i = 20 ∨ i = 21 ∨ i = 22 ∨ i = 23 ∨ i = 24 ∨ i = 25 ∨ i = 26 ∨ i = 27 ∨ i = 28 ∨ i = 29 ∨ i = 30 ∨ i = 31 ∨ i = 32 ∨ i = 33 ∨ i = 34 ∨ i = 35 ∨ i = 36 ∨ i = 37 ∨ i = 38 ∨ i = 39 ∨ i = 40 ∨ i = 41 ∨ i = 42 ∨ i = 43 ∨ i = 44 ∨ i = 45 ∨ i = 46 ∨ i = 47 ∨ i = 48 ∨ i = 49 := by omega
          rcases hc with rfl | rfl | rfl | rfl | rfl | rfl | rfl | rfl | rfl | rfl | rfl | rfl | rfl | rfl | rfl | rfl | rfl | rfl | rfl | rfl | rfl | rfl | rfl | rfl | rfl | rfl | rfl | rfl | rfl | rfl | rfl | rfl | rfl | rfl | rfl | rfl | rfl | rfl | rfl | rfl | rfl | rfl | rfl
          · obtain rfl := Option.some.inj ho
            refine ⟨rfl, fun a w' hS hold hin K hK => ?_⟩
            obtain ⟨y6, x6, rfl⟩ := hin 6 rfl (by omega)
            refine if_guard (d := 55) rfl rfl x6 ?_
            exact op_ld_el (.tmp 11) rfl rfl _ (eval_tmp ((hold 11 (slots_not (by kernel_rfl))).trans h11)) hS.2.2.2.1 hK
          · obtain rfl := Option.some.inj ho
            refine ⟨rfl, fun a w' hS hold hin K hK => ?_⟩
            obtain ⟨y6, x6, rfl⟩ := hin 6 rfl (by omega)
            refine if_guard (d := 55) rfl rfl x6 ?_
            exact op_ld_el (.tmp 8) rfl rfl _ (eval_tmp ((hold 8 (slots_not (by kernel_rfl))).trans h8)) hS.2.1 hK
          · obtain rfl := Option.some.inj ho
            refine ⟨rfl, fun a w' hS hold hin K hK => ?_⟩
            obtain ⟨y6, x6, rfl⟩ := hin 6 rfl (by omega)
            obtain ⟨y7, x7, (v7 : IsEl (selF true nb na) y7)⟩ := hin 7 rfl (by omega)
            obtain ⟨y8, x8, (v8 : IsEl nb y8)⟩ := hin 8 rfl (by omega)
            refine if_guard (d := 55) rfl rfl x6 ?_
            exact op_fn2 _ _ _ _ _ _ rfl rfl (eval_tmp x7) (eval_tmp x8) (by intro args w; kernel_rfl) (one_el v7 v8 rfl _) hK
          · obtain rfl := Option.some.inj ho
            refine ⟨rfl, fun a w' hS hold hin K hK => ?_⟩
            obtain ⟨y6, x6, rfl⟩ := hin 6 rfl (by omega)
            obtain ⟨y9, x9, rfl⟩ := hin 9 rfl (by omega)
            refine if_guard (d := 55) rfl rfl x6 ?_
            exact op_un (V := (· = .bool false)) _ _ _ _ (.bool false) rfl rfl (eval_tmp x9) (fun w => by kernel_rfl) rfl hK
          · obtain rfl := Option.some.inj ho
            refine ⟨rfl, fun a w' hS hold hin K hK => ?_⟩
            obtain ⟨y6, x6, rfl⟩ := hin 6 rfl (by omega)
            obtain ⟨y10, x10, rfl⟩ := hin 10 rfl (by omega)
            refine if_guard (d := 55) rfl rfl x6 ?_
            exact op_move (V := (· = .bool false)) _ _ rfl rfl (eval_tmp x10) rfl hK
          · obtain rfl := Option.some.inj ho
            refine ⟨rfl, fun a w' hS hold hin K hK => ?_⟩
            obtain ⟨y11, x11, rfl⟩ := hin 11 rfl (by omega)
            refine if_guard (d := 60) rfl rfl x11 ?_
            exact op_ld_el (.tmp 12) rfl rfl _ (eval_tmp ((hold 12 (slots_not (by kernel_rfl))).trans h12)) hS.2.2.2.2.1 hK
          · obtain rfl := Option.some.inj ho
            refine ⟨rfl, fun a w' hS hold hin K hK => ?_⟩
            obtain ⟨y11, x11, rfl⟩ := hin 11 rfl (by omega)
            refine if_guard (d := 60) rfl rfl x11 ?_
            exact op_ld_el (.tmp 7) rfl rfl _ (eval_tmp ((hold 7 (slots_not (by kernel_rfl))).trans h7)) hS.1 hK
          · obtain rfl := Option.some.inj ho
            refine ⟨rfl, fun a w' hS hold hin K hK => ?_⟩
            obtain ⟨y11, x11, rfl⟩ := hin 11 rfl (by omega)
            obtain ⟨y12, x12, (v12 : IsEl (selF true na nb) y12)⟩ := hin 12 rfl (by omega)
            obtain ⟨y13, x13, (v13 : IsEl na y13)⟩ := hin 13 rfl (by omega)
            refine if_guard (d := 60) rfl rfl x11 ?_
            exact op_fn2 _ _ _ _ _ _ rfl rfl (eval_tmp x12) (eval_tmp x13) (by intro args w; kernel_rfl) (one_el v12 v13 rfl _) hK
          · obtain rfl := Option.some.inj ho
            refine ⟨rfl, fun a w' hS hold hin K hK => ?_⟩
            obtain ⟨y11, x11, rfl⟩ := hin 11 rfl (by omega)
            obtain ⟨y14, x14, rfl⟩ := hin 14 rfl (by omega)
            refine if_guard (d := 60) rfl rfl x11 ?_
            exact op_un (V := (· = .bool false)) _ _ _ _ (.bool false) rfl rfl (eval_tmp x14) (fun w => by kernel_rfl) rfl hK
          · obtain rfl := Option.some.inj ho
            refine ⟨rfl, fun a w' hS hold hin K hK => ?_⟩
            obtain ⟨y6, x6, rfl⟩ := hin 6 rfl (by omega)
            obtain ⟨y11, x11, rfl⟩ := hin 11 rfl (by omega)
            obtain ⟨y15, x15, rfl⟩ := hin 15 rfl (by omega)
            refine if_guard (d := 55) rfl rfl x6 ?_
            exact op_pick (V := (· = .bool false)) _ _ _ false _ rfl rfl (eval_tmp x11) (show (Act.eval a _) = _ from (eval_tmp x15)) rfl hK
          · obtain rfl := Option.some.inj ho
            refine ⟨rfl, fun a w' hS hold hin K hK => ?_⟩
            obtain ⟨y6, x6, rfl⟩ := hin 6 rfl (by omega)
            obtain ⟨y16, x16, rfl⟩ := hin 16 rfl (by omega)
            refine if_guard (d := 55) rfl rfl x6 ?_
            exact op_move (V := (· = .bool false)) _ _ rfl rfl (eval_tmp x16) rfl hK
          · obtain rfl := Option.some.inj ho
            refine ⟨rfl, fun a w' hS hold hin K hK => ?_⟩
            obtain ⟨y17, x17, rfl⟩ := hin 17 rfl (by omega)
            refine if_guard (d := 66) rfl rfl x17 ?_
            exact op_ld_el (.tmp 13) rfl rfl _ (eval_tmp ((hold 13 (slots_not (by kernel_rfl))).trans h13)) hS.2.2.2.2.2.1 hK
          · obtain rfl := Option.some.inj ho
            refine ⟨rfl, fun a w' hS hold hin K hK => ?_⟩
            obtain ⟨y17, x17, rfl⟩ := hin 17 rfl (by omega)
            refine if_guard (d := 66) rfl rfl x17 ?_
            exact op_ld_el (.tmp 7) rfl rfl _ (eval_tmp ((hold 7 (slots_not (by kernel_rfl))).trans h7)) hS.1 hK
          · obtain rfl := Option.some.inj ho
            refine ⟨rfl, fun a w' hS hold hin K hK => ?_⟩
            obtain ⟨y17, x17, rfl⟩ := hin 17 rfl (by omega)
            obtain ⟨y18, x18, (v18 : IsEl (selF true na nb) y18)⟩ := hin 18 rfl (by omega)
            obtain ⟨y19, x19, (v19 : IsEl na y19)⟩ := hin 19 rfl (by omega)
            refine if_guard (d := 66) rfl rfl x17 ?_
            exact op_fn2 _ _ _ _ _ _ rfl rfl (eval_tmp x18) (eval_tmp x19) (by intro args w; kernel_rfl) (one_el v18 v19 rfl _) hK
          · obtain rfl := Option.some.inj ho
            refine ⟨rfl, fun a w' hS hold hin K hK => ?_⟩
            obtain ⟨y17, x17, rfl⟩ := hin 17 rfl (by omega)
            obtain ⟨y20, x20, rfl⟩ := hin 20 rfl (by omega)
            refine if_guard (d := 66) rfl rfl x17 ?_
            exact op_un (V := (· = .bool false)) _ _ _ _ (.bool false) rfl rfl (eval_tmp x20) (fun w => by kernel_rfl) rfl hK
          · obtain rfl := Option.some.inj ho
            refine ⟨rfl, fun a w' hS hold hin K hK => ?_⟩
            obtain ⟨y6, x6, rfl⟩ := hin 6 rfl (by omega)
            obtain ⟨y17, x17, rfl⟩ := hin 17 rfl (by omega)
            obtain ⟨y21, x21, rfl⟩ := hin 21 rfl (by omega)
            refine if_guard (d := 55) rfl rfl x6 ?_
            exact op_pick (V := (· = .bool false)) _ _ _ false _ rfl rfl (eval_tmp x17) (show (Act.eval a _) = _ from (eval_tmp x21)) rfl hK
          · obtain rfl := Option.some.inj ho
            refine ⟨rfl, fun a w' hS hold hin K hK => ?_⟩
            obtain ⟨y6, x6, rfl⟩ := hin 6 rfl (by omega)
            obtain ⟨y22, x22, rfl⟩ := hin 22 rfl (by omega)
            refine if_always rfl ?_
            exact op_pick (V := (· = .bool false)) _ _ _ true _ rfl rfl (eval_tmp x6) (show (Act.eval a _) = _ from (eval_tmp x22)) rfl hK
          · obtain rfl := Option.some.inj ho
            refine ⟨rfl, fun a w' hS hold hin K hK => ?_⟩
            obtain ⟨y23, x23, rfl⟩ := hin 23 rfl (by omega)
            refine if_always rfl ?_
            exact op_move (V := (· = .bool false)) _ _ rfl rfl (eval_tmp x23) rfl hK
          · obtain rfl := Option.some.inj ho
            refine ⟨rfl, fun a w' hS hold hin K hK => ?_⟩
            obtain ⟨y24, x24, rfl⟩ := hin 24 rfl (by omega)
            refine if_guard (d := 73) rfl rfl x24 ?_
            exact op_move (V := (· = .slice (some ⟨gm, 0, none⟩) 4 4)) _ _ rfl rfl (eval_tmp ((hold 9 (slots_not (by kernel_rfl))).trans h9)) rfl hK
          · obtain rfl := Option.some.inj ho
            refine ⟨rfl, fun a w' hS hold hin K hK => ?_⟩
            obtain ⟨y24, x24, rfl⟩ := hin 24 rfl (by omega)
            refine if_guard (d := 73) rfl rfl x24 ?_
            exact op_move (V := (· = .int .i64 (k : Nat))) _ _ rfl rfl (eval_tmp ((hold 10 (slots_not (by kernel_rfl))).trans h10)) rfl hK
          · obtain rfl := Option.some.inj ho
            refine ⟨rfl, fun a w' hS hold hin K hK => ?_⟩
            obtain ⟨y24, x24, rfl⟩ := hin 24 rfl (by omega)
            obtain ⟨y25, x25, rfl⟩ := hin 25 rfl (by omega)
            obtain ⟨y26, x26, rfl⟩ := hin 26 rfl (by omega)
            refine if_guard (d := 73) rfl rfl x24 ?_
            exact op_word4 _ _ rfl rfl gm k hlt (eval_tmp x25) (eval_tmp x26) hK
          · obtain rfl := Option.some.inj ho
            refine ⟨rfl, fun a w' hS hold hin K hK => ?_⟩
            obtain ⟨y24, x24, rfl⟩ := hin 24 rfl (by omega)
            obtain ⟨y27, x27, rfl⟩ := hin 27 rfl (by omega)
            refine if_guard (d := 73) rfl rfl x24 ?_
            exact op_word _ rfl rfl gm k (eval_tmp x27) hS.2.2.1 (by rw [HL.out]; exact hlt) v HV.out hK
          · obtain rfl := Option.some.inj ho
            refine ⟨rfl, fun a w' hS hold hin K hK => ?_⟩
            obtain ⟨y24, x24, rfl⟩ := hin 24 rfl (by omega)
            obtain ⟨y28, x28, rfl⟩ := hin 28 rfl (by omega)
            refine if_guard (d := 73) rfl rfl x24 ?_
            exact op_bin (V := (· = .int .u64 1)) _ _ _ _ _ _ _ (.int .u64 1) rfl rfl (eval_tmp x28) rfl (fun w => rem_two v 1 hvr.1 hb w) rfl hK
          · obtain rfl := Option.some.inj ho
            refine ⟨rfl, fun a w' hS hold hin K hK => ?_⟩
            obtain ⟨y24, x24, rfl⟩ := hin 24 rfl (by omega)
            obtain ⟨y29, x29, rfl⟩ := hin 29 rfl (by omega)
            refine if_guard (d := 73) rfl rfl x24 ?_
            exact op_bin (V := (· = .bool false)) _ _ _ _ _ _ _ (.bool false) rfl rfl (eval_tmp x29) rfl (fun w => by kernel_rfl) rfl hK
          · obtain rfl := Option.some.inj ho
            refine ⟨rfl, fun a w' hS hold hin K hK => ?_⟩
            obtain ⟨y24, x24, rfl⟩ := hin 24 rfl (by omega)
            obtain ⟨y30, x30, rfl⟩ := hin 30 rfl (by omega)
            refine if_guard (d := 73) rfl rfl x24 ?_
            exact op_move (V := (· = .bool false)) _ _ rfl rfl (eval_tmp x30) rfl hK
          · obtain rfl := Option.some.inj ho
            refine ⟨rfl, fun a w' hS hold hin K hK => ?_⟩
            obtain ⟨y31, x31, rfl⟩ := hin 31 rfl (by omega)
            exact if_guard_off (d := 80) rfl rfl x31 (by decide) (hK _ _ rfl (Below.refl _ _))
          · obtain rfl := Option.some.inj ho
            refine ⟨rfl, fun a w' hS hold hin K hK => ?_⟩
            obtain ⟨y31, x31, rfl⟩ := hin 31 rfl (by omega)
            exact if_guard_off (d := 80) rfl rfl x31 (by decide) (hK _ _ rfl (Below.refl _ _))
          · obtain rfl := Option.some.inj ho
            refine ⟨rfl, fun a w' hS hold hin K hK => ?_⟩
            obtain ⟨y31, x31, rfl⟩ := hin 31 rfl (by omega)
            exact if_guard_off (d := 80) rfl rfl x31 (by decide) (hK _ _ rfl (Below.refl _ _))
          · obtain rfl := Option.some.inj ho
            refine ⟨rfl, fun a w' hS hold hin K hK => ?_⟩
            obtain ⟨y31, x31, rfl⟩ := hin 31 rfl (by omega)
            exact if_guard_off (d := 80) rfl rfl x31 (by decide) (hK _ _ rfl (Below.refl _ _))
          · obtain rfl := Option.some.inj ho
            refine ⟨rfl, fun a w' hS hold hin K hK => ?_⟩
            obtain ⟨y31, x31, rfl⟩ := hin 31 rfl (by omega)
            exact if_guard_off (d := 80) rfl rfl x31 (by decide) (hK _ _ rfl (Below.refl _ _))
          · obtain rfl := Option.some.inj ho
            refine ⟨rfl, fun a w' hS hold hin K hK => ?_⟩
            obtain ⟨y36, x36, rfl⟩ := hin 36 rfl (by omega)
            exact if_guard_un (d := 85) rfl rfl x36 (hK _ _ rfl (Below.refl _ _))
          · obtain rfl := Option.some.inj ho
            refine ⟨rfl, fun a w' hS hold hin K hK => ?_⟩
            obtain ⟨y36, x36, rfl⟩ := hin 36 rfl (by omega)
            exact if_guard_un (d := 85) rfl rfl x36 (hK _ _ rfl (Below.refl _ _))
          · obtain rfl := Option.some.inj ho
            refine ⟨rfl, fun a w' hS hold hin K hK => ?_⟩
            obtain ⟨y36, x36, rfl⟩ := hin 36 rfl (by omega)
            exact if_guard_un (d := 85) rfl rfl x36 (hK _ _ rfl (Below.refl _ _))
          · obtain rfl := Option.some.inj ho
            refine ⟨rfl, fun a w' hS hold hin K hK => ?_⟩
            obtain ⟨y36, x36, rfl⟩ := hin 36 rfl (by omega)
            exact if_guard_un (d := 85) rfl rfl x36 (hK _ _ rfl (Below.refl _ _))
          · obtain rfl := Option.some.inj ho
            refine ⟨rfl, fun a w' hS hold hin K hK => ?_⟩
            obtain ⟨y31, x31, rfl⟩ := hin 31 rfl (by omega)
            exact if_guard_off (d := 80) rfl rfl x31 (by decide) (hK _ _ rfl (Below.refl _ _))
          · obtain rfl := Option.some.inj ho
            refine ⟨rfl, fun a w' hS hold hin K hK => ?_⟩
            obtain ⟨y31, x31, rfl⟩ := hin 31 rfl (by omega)
            exact if_guard_off (d := 80) rfl rfl x31 (by decide) (hK _ _ rfl (Below.refl _ _))
          · obtain rfl := Option.some.inj ho
            refine ⟨rfl, fun a w' hS hold hin K hK => ?_⟩
            obtain ⟨y42, x42, rfl⟩ := hin 42 rfl (by omega)
            exact if_guard_un (d := 91) rfl rfl x42 (hK _ _ rfl (Below.refl _ _))
          · obtain rfl := Option.some.inj ho
            refine ⟨rfl, fun a w' hS hold hin K hK => ?_⟩
            obtain ⟨y42, x42, rfl⟩ := hin 42 rfl (by omega)
            exact if_guard_un (d := 91) rfl rfl x42 (hK _ _ rfl (Below.refl _ _))
          · obtain rfl := Option.some.inj ho
            refine ⟨rfl, fun a w' hS hold hin K hK => ?_⟩
            obtain ⟨y42, x42, rfl⟩ := hin 42 rfl (by omega)
            exact if_guard_un (d := 91) rfl rfl x42 (hK _ _ rfl (Below.refl _ _))
          · obtain rfl := Option.some.inj ho
            refine ⟨rfl, fun a w' hS hold hin K hK => ?_⟩
            obtain ⟨y42, x42, rfl⟩ := hin 42 rfl (by omega)
            exact if_guard_un (d := 91) rfl rfl x42 (hK _ _ rfl (Below.refl _ _))
          · obtain rfl := Option.some.inj ho
            refine ⟨rfl, fun a w' hS hold hin K hK => ?_⟩
            obtain ⟨y31, x31, rfl⟩ := hin 31 rfl (by omega)
            exact if_guard_off (d := 80) rfl rfl x31 (by decide) (hK _ _ rfl (Below.refl _ _))
          · obtain rfl := Option.some.inj ho
            refine ⟨rfl, fun a w' hS hold hin K hK => ?_⟩
            obtain ⟨y24, x24, rfl⟩ := hin 24 rfl (by omega)
            obtain ⟨y31, x31, rfl⟩ := hin 31 rfl (by omega)
            refine if_guard (d := 73) rfl rfl x24 ?_
            exact op_pick (V := (· = .bool false)) _ _ _ false _ rfl rfl (eval_tmp x31) (show Act.eval a (.const (.bool false)) = (.bool false) from rfl) rfl hK
          · obtain rfl := Option.some.inj ho
            refine ⟨rfl, fun a w' hS hold hin K hK => ?_⟩
            obtain ⟨y24, x24, rfl⟩ := hin 24 rfl (by omega)
            obtain ⟨y48, x48, rfl⟩ := hin 48 rfl (by omega)
            refine if_always rfl ?_
            exact op_pick (V := (· = .bool false)) _ _ _ false _ rfl rfl (eval_tmp x24) (show (Act.eval a _) = _ from (eval_tmp x48)) rfl hK
        clear hS
        intro t1 W4 hs hold hout hS
        have ef := frame_fill 50 (fun i => [49, 50, 51, 52, 53, 54, 55, 56, 57, 58, 59, 60, 61, 62, 63, 64, 65, 66, 67, 68, 69, 70, 71, 72, 73, 74, 75, 76, 77, 78, 79, 80, 81, 82, 83, 84, 85, 86, 87, 88, 89, 90, 91, 92, 93, 94, 95, 96, 97, 98].getD i 0) hs hold (slots_apart (by kernel_rfl)) (slots_lie (by rw [HS]; kernel_rfl))
        replace HS := hs.trans HS
        obtain ⟨_, q98, rfl⟩ : ∃ x, t1[98]? = some x ∧ x = (.bool false : Value) := hout 49 (by omega)
        have g98 : t1.getD 98 undef = .bool false := by rw [Array.getD_eq_getD_getElem?, q98]; rfl
        rw [ef, HT]
        clear ef
        simp only [fillA, if_true, List.getD_cons_zero, List.getD_cons_succ, List.setIfInBounds_toArray, List.set_cons_zero, List.set_cons_succ, g98]
        generalize t1.getD 49 undef = x49
        generalize t1.getD 50 undef = x50
        generalize t1.getD 51 undef = x51
        generalize t1.getD 52 undef = x52
        generalize t1.getD 53 undef = x53
        generalize t1.getD 54 undef = x54
        generalize t1.getD 55 undef = x55
        generalize t1.getD 56 undef = x56
        generalize t1.getD 57 undef = x57
        generalize t1.getD 58 undef = x58
        generalize t1.getD 59 undef = x59
        generalize t1.getD 60 undef = x60
        generalize t1.getD 61 undef = x61
        generalize t1.getD 62 undef = x62
        generalize t1.getD 63 undef = x63
        generalize t1.getD 64 undef = x64
        generalize t1.getD 65 undef = x65
        generalize t1.getD 66 undef = x66
        generalize t1.getD 67 undef = x67
        generalize t1.getD 68 undef = x68
        generalize t1.getD 69 undef = x69
        generalize t1.getD 70 undef = x70
        generalize t1.getD 71 undef = x71
        generalize t1.getD 72 undef = x72
        generalize t1.getD 73 undef = x73
        generalize t1.getD 74 undef = x74
        generalize t1.getD 75 undef = x75
        generalize t1.getD 76 undef = x76
        generalize t1.getD 77 undef = x77
        generalize t1.getD 78 undef = x78
        generalize t1.getD 79 undef = x79
        generalize t1.getD 80 undef = x80
        generalize t1.getD 81 undef = x81
        generalize t1.getD 82 undef = x82
        generalize t1.getD 83 undef = x83
        generalize t1.getD 84 undef = x84
        generalize t1.getD 85 undef = x85
        generalize t1.getD 86 undef = x86
        generalize t1.getD 87 undef = x87
        generalize t1.getD 88 undef = x88
        generalize t1.getD 89 undef = x89
        generalize t1.getD 90 undef = x90
        generalize t1.getD 91 undef = x91
        generalize t1.getD 92 undef = x92
        generalize t1.getD 93 undef = x93
        generalize t1.getD 94 undef = x94
        generalize t1.getD 95 undef = x95
        generalize t1.getD 96 undef = x96
        generalize t1.getD 97 undef = x97
        clear g98 HT
        clear h7 h8 h9 h10 h11 h12 h13 q98 hold hout hs HS t1 t0
        have hS' := hS
        clear hS
        have hS : ElAt na gx W4 ∧ ElAt nb gy W4 ∧ WordsAt MS gm W4 ∧ ElAt (selF true nb na) gp W4 ∧ ElAt (selF true na nb) gq W4 ∧ ElAt (selF true na nb) gr W4 ∧ Below w.heap.size w W4 := ⟨hS'.1, hS'.2.1, hS'.2.2.1, hS'.2.2.2.1, hS'.2.2.2.2.1, hS'.2.2.2.2.2.1, hS'.2.2.2.2.2.2.1⟩
        clear hS' lt0 lt1 lt2 lt3 lt4 lt5
        clear hM
        clear M
        go_wp2_with fail
        go_roundw
        case rel => exact ⟨k + 1, by omega, by go_num, hS.1, hS.2.1, hS.2.2.1, hS.2.2.2.2.2.2⟩
        case measure => simp [intOf]; omega
      · obtain ⟨M, hM⟩ : ∃ M, M = wr.heap.size := ⟨_, rfl⟩
        have hMB : w.heap.size ≤ M := hM ▸ (hS.2.2.2).size
        have lt0 := (hS.1).lt
        have lt1 := (hS.2.1).lt
        have lt2 := (hS.2.2.1).lt
        rw [← hM] at lt0 lt1 lt2
        refine hide_frame fun t0 HT => ?_
        have HS : t0.size = 127 := by rw [HT]; rfl
        have h7 : t0[7]? = some (.pointer (some ⟨gx, 0, none⟩)) := by rw [HT]; rfl
        have h8 : t0[8]? = some (.pointer (some ⟨gy, 0, none⟩)) := by rw [HT]; rfl
        have h9 : t0[9]? = some (.slice (some ⟨gm, 0, none⟩) 4 4) := by rw [HT]; rfl
        have h10 : t0[10]? = some (.int .i64 (k : Nat)) := by rw [HT]; rfl
        refine wp_region_st1 12 10 8 (fun i => [33, 34, 35, 36, 37, 38, 39, 32, 40, 41, 11, 12].getD i 0) (fun i => [none, none, none, none, none, none, none, none, none, none, some 5, some 5].getD i none) (fun i => [(· = .slice (some ⟨gm, 0, none⟩) 4 4), (· = .int .i64 (k : Nat)), (· = .pointer (some ⟨gm, k, none⟩)), (· = .int .u64 v), IsEl na, IsEl nb, IsEl2 (selF false nb na) (selF false na nb), IsEl2 (selF false nb na) (selF false na nb), IsEl (selF false nb na), IsEl (selF false na nb), (fun _ => True), (fun _ => True)].getD i (fun _ => True)) (fun w' => ElAt na gx w' ∧ ElAt nb gy w' ∧ WordsAt MS gm w' ∧ Below w.heap.size w w' ∧ M ≤ w'.heap.size) M 5 26
          (by kernel_rfl) (by kernel_rfl) (slots_apart (by kernel_rfl)) (slots_lie (by rw [HS]; kernel_rfl)) ⟨hS.1, hS.2.1, hS.2.2.1, (hS.2.2.2).drew, Nat.le_of_eq hM⟩ (fun w' h => h.2.2.2.2) (fun w1 w2 h b => ⟨(h.1).keep b, (h.2.1).keep b, (h.2.2.1).keep b, below_call b h.2.2.2.1, Nat.le_trans h.2.2.2.2 b.size⟩) (fun w1 g cs h hg => ⟨(h.1).of_eq (setRow_other w1 g _ cs (Nat.ne_of_lt (Nat.lt_of_lt_of_le lt0 hg))), (h.2.1).of_eq (setRow_other w1 g _ cs (Nat.ne_of_lt (Nat.lt_of_lt_of_le lt1 hg))), (h.2.2.1).of_eq (setRow_other w1 g _ cs (Nat.ne_of_lt (Nat.lt_of_lt_of_le lt2 hg))), below_setRow h.2.2.2.1 (Nat.le_trans hMB hg) cs, by simpa [World.setRow] using h.2.2.2.2⟩) (by omega) (by omega) rfl rfl tElem (fun x (hx : IsEl (selF false nb na) x) => el_row hx) (fun o ho => by obtain rfl := Option.some.inj ho; exact ⟨rfl, rfl, rfl, rfl, rfl⟩) ?_ ?_ ?_
        · clear hS
          intro i o hi ho hA
          have hc : i = 0 ∨ i = 1 ∨ i = 2 ∨ i = 3 ∨ i = 4 ∨ i = 5 ∨ i = 6 ∨ i = 7 ∨ i = 8 ∨ i = 9 ∨ i = 10 ∨ i = 11 := by omega
          rcases hc with rfl | rfl | rfl | rfl | rfl | rfl | rfl | rfl | rfl | rfl | rfl | rfl
          · obtain rfl := Option.some.inj ho
            refine ⟨rfl, fun a w' hS hold hin K hK => ?_⟩
            refine if_always rfl ?_
            exact op_move (V := (· = .slice (some ⟨gm, 0, none⟩) 4 4)) _ _ rfl rfl (eval_tmp ((hold 9 (slots_not (by kernel_rfl))).trans h9)) rfl hK
          · obtain rfl := Option.some.inj ho
            refine ⟨rfl, fun a w' hS hold hin K hK => ?_⟩
            refine if_always rfl ?_
            exact op_move (V := (· = .int .i64 (k : Nat))) _ _ rfl rfl (eval_tmp ((hold 10 (slots_not (by kernel_rfl))).trans h10)) rfl hK
          · obtain rfl := Option.some.inj ho
            refine ⟨rfl, fun a w' hS hold hin K hK => ?_⟩
            obtain ⟨y0, x0, rfl⟩ := hin 0 rfl (by omega) rfl
            obtain ⟨y1, x1, rfl⟩ := hin 1 rfl (by omega) rfl
            refine if_always rfl ?_
            exact op_word4 _ _ rfl rfl gm k hlt (eval_tmp x0) (eval_tmp x1) hK
          · obtain rfl := Option.some.inj ho
            refine ⟨rfl, fun a w' hS hold hin K hK => ?_⟩
            obtain ⟨y2, x2, rfl⟩ := hin 2 rfl (by omega) rfl
            refine if_always rfl ?_
            exact op_word _ rfl rfl gm k (eval_tmp x2) hS.2.2.1 (by rw [HL.out]; exact hlt) v HV.out hK
          · obtain rfl := Option.some.inj ho
            refine ⟨rfl, fun a w' hS hold hin K hK => ?_⟩
            refine if_always rfl ?_
            exact op_ld_el (.tmp 7) rfl rfl _ (eval_tmp ((hold 7 (slots_not (by kernel_rfl))).trans h7)) hS.1 hK
          · obtain rfl := Option.some.inj ho
            refine ⟨rfl, fun a w' hS hold hin K hK => ?_⟩
            refine if_always rfl ?_
            exact op_ld_el (.tmp 8) rfl rfl _ (eval_tmp ((hold 8 (slots_not (by kernel_rfl))).trans h8)) hS.2.1 hK
          · obtain rfl := Option.some.inj ho
            refine ⟨rfl, fun a w' hS hold hin K hK => ?_⟩
            obtain ⟨y3, x3, rfl⟩ := hin 3 rfl (by omega) rfl
            obtain ⟨y4, x4, (v4 : IsEl na y4)⟩ := hin 4 rfl (by omega) rfl
            obtain ⟨y5, x5, (v5 : IsEl nb y5)⟩ := hin 5 rfl (by omega) rfl
            refine if_always rfl ?_
            exact op_fn3 _ _ _ _ _ _ _ _ rfl rfl (eval_tmp x3) (eval_tmp x4) (eval_tmp x5) (by intro args w; kernel_rfl) (swap_ev false ⟨hvr, decide_eq_false hb⟩ v4 v5 _) hK
          · obtain rfl := Option.some.inj ho
            refine ⟨rfl, fun a w' hS hold hin K hK => ?_⟩
            obtain ⟨y6, x6, (v6 : IsEl2 (selF false nb na) (selF false na nb) y6)⟩ := hin 6 rfl (by omega) rfl
            refine if_always rfl ?_
            exact op_move (V := IsEl2 (selF false nb na) (selF false na nb)) _ _ rfl rfl (eval_tmp x6) v6 hK
          · obtain rfl := Option.some.inj ho
            refine ⟨rfl, fun a w' hS hold hin K hK => ?_⟩
            obtain ⟨y7, x7, (v7 : IsEl2 (selF false nb na) (selF false na nb) y7)⟩ := hin 7 rfl (by omega) rfl
            refine if_always rfl ?_
            exact op_ext0 _ rfl rfl (eval_tmp x7) v7 hK
          · obtain rfl := Option.some.inj ho
            refine ⟨rfl, fun a w' hS hold hin K hK => ?_⟩
            obtain ⟨y7, x7, (v7 : IsEl2 (selF false nb na) (selF false na nb) y7)⟩ := hin 7 rfl (by omega) rfl
            refine if_always rfl ?_
            exact op_ext1 _ rfl rfl (eval_tmp x7) v7 hK
          · cases hA
          · cases hA
        · intro i o sz hi ho hA
          have hc : i = 0 ∨ i = 1 ∨ i = 2 ∨ i = 3 ∨ i = 4 ∨ i = 5 ∨ i = 6 ∨ i = 7 ∨ i = 8 ∨ i = 9 ∨ i = 10 ∨ i = 11 := by omega
          rcases hc with rfl | rfl | rfl | rfl | rfl | rfl | rfl | rfl | rfl | rfl | rfl | rfl
          · cases hA
          · cases hA
          · cases hA
          · cases hA
          · cases hA
          · cases hA
          · cases hA
          · cases hA
          · cases hA
          · cases hA
          · obtain rfl := Option.some.inj ho
            obtain rfl := Option.some.inj hA
            exact ⟨rfl, rfl, 26, #[.int .u64 0, .int .u64 0, .int .u64 0, .int .u64 0, .int .u64 0], rfl, fun a w' K h => wp_new 26 #[.int .u64 0, .int .u64 0, .int .u64 0, .int .u64 0, .int .u64 0] (fun w => by kernel_rfl) h⟩
          · obtain rfl := Option.some.inj ho
            obtain rfl := Option.some.inj hA
            exact ⟨rfl, rfl, 26, #[.int .u64 0, .int .u64 0, .int .u64 0, .int .u64 0, .int .u64 0], rfl, fun a w' K h => wp_new 26 #[.int .u64 0, .int .u64 0, .int .u64 0, .int .u64 0, .int .u64 0] (fun w => by kernel_rfl) h⟩
        clear hS
        intro t1 V2 hs hold hout hall hne hst1 hS
        have ef := frame_fill 12 (fun i => [33, 34, 35, 36, 37, 38, 39, 32, 40, 41, 11, 12].getD i 0) hs hold (slots_apart (by kernel_rfl)) (slots_lie (by rw [HS]; kernel_rfl))
        replace HS := hs.trans HS
        obtain ⟨gp, ty1, cs1, h11, q1x, rr1⟩ : ∃ g t' cs, t1[11]? = some (.pointer (some ⟨g, 0, none⟩)) ∧ t1[40]? = some (.agg cs) ∧ V2.heap[g]? = some (.cells cs t' (0, 0)) := hst1
        have b11 : M ≤ gp := by
          obtain ⟨g', p1, p2, _⟩ := hall 10 (by omega) 5 rfl
          have p1' : t1[11]? = some (.pointer (some ⟨g', 0, none⟩)) := p1
          rw [ptr_inj (h11.symm.trans p1')]; exact p2
        have e11 : ElAt (selF false nb na) gp V2 := by
          obtain ⟨x', y1, y2⟩ : ∃ x, t1[40]? = some x ∧ (IsEl (selF false nb na)) x := hout 8 (by omega) rfl
          exact el_stored y2 (y1.symm.trans q1x) rr1
        obtain ⟨gq, h12, b12, r12⟩ : ∃ g, t1[12]? = some (.pointer (some ⟨g, 0, none⟩)) ∧ M ≤ g ∧ RowAt 5 g V2 := by
          obtain ⟨g, p1, p2, ty, cs, p3, p4⟩ := hall 11 (by omega) 5 rfl
          exact ⟨g, p1, p2, cs, ty, p3, p4⟩
        have n11_12 : gp ≠ gq := fun h => hne 10 11 (by omega) (by omega) (by omega) rfl rfl (show t1[11]? = t1[12]? by rw [h11, h12, h])
        obtain ⟨x41, q41, v41⟩ : ∃ x, t1[41]? = some x ∧ (IsEl (selF false na nb)) x := hout 9 (by omega) rfl
        replace h7 := (hold 7 (slots_not (by kernel_rfl))).trans h7
        replace h8 := (hold 8 (slots_not (by kernel_rfl))).trans h8
        replace h9 := (hold 9 (slots_not (by kernel_rfl))).trans h9
        replace h10 := (hold 10 (slots_not (by kernel_rfl))).trans h10
        clear hold hout hall hne hs
        simp only [List.drop_succ_cons, List.drop_zero]
        have bb := Below.refl M V2
        refine st_el rfl (.tmp 12) (.tmp 41) rfl rfl _ _ (eval_tmp h12) (eval_tmp q41) v41 r12 fun V2' e12 p12 => ?_
        replace bb := bb.trans (p12.2.mono b12)
        replace e11 := e11.of_eq (p12.1 _ n11_12)
        refine wpList_nil ?_
        have hS2 : ElAt na gx V2' ∧ ElAt nb gy V2' ∧ WordsAt MS gm V2' ∧ ElAt (selF false nb na) gp V2' ∧ ElAt (selF false na nb) gq V2' ∧ Below w.heap.size w V2' := ⟨(hS.1).under bb lt0, (hS.2.1).under bb lt1, (hS.2.2.1).under bb lt2, e11, e12, (hS.2.2.2.1).trans (bb.mono hMB)⟩
        have g11 : t1.getD 11 undef = .pointer (some ⟨gp, 0, none⟩) := by rw [Array.getD_eq_getD_getElem?, h11]; rfl
        have g12 : t1.getD 12 undef = .pointer (some ⟨gq, 0, none⟩) := by rw [Array.getD_eq_getD_getElem?, h12]; rfl
        rw [ef, HT]
        clear ef
        simp only [fillA, if_true, List.getD_cons_zero, List.getD_cons_succ, List.setIfInBounds_toArray, List.set_cons_zero, List.set_cons_succ, g11, g12]
        generalize t1.getD 33 undef = z33
        generalize t1.getD 34 undef = z34
        generalize t1.getD 35 undef = z35
        generalize t1.getD 36 undef = z36
        generalize t1.getD 37 undef = z37
        generalize t1.getD 38 undef = z38
        generalize t1.getD 39 undef = z39
        generalize t1.getD 32 undef = z32
        generalize t1.getD 40 undef = z40
        generalize t1.getD 41 undef = z41
        clear g11 g12 HT
        clear hS
        have hS := hS2
        clear hS2
        clear h7 h8 h9 h10 h11 h12 p12 r12 rr1 q1x hst1 b11 b12 e11 e12 n11_12 v41 q41 lt0 lt1 lt2 hMB bb HS t1 t0 hM M
        go_wp2_with ((with_reducible refine guard_list ?_); first | (refine held_load 26 _ rfl ?_) | (refine held_load 22 _ rfl ?_))
        obtain ⟨M, hM⟩ : ∃ M, M = V2'.heap.size := ⟨_, rfl⟩
        have hMB : w.heap.size ≤ M := hM ▸ (hS.2.2.2.2.2).size
        have lt0 := (hS.1).lt
        have lt1 := (hS.2.1).lt
        have lt2 := (hS.2.2.1).lt
        have lt3 := (hS.2.2.2.1).lt
        have lt4 := (hS.2.2.2.2.1).lt
        rw [← hM] at lt0 lt1 lt2 lt3 lt4
        refine hide_frame fun t0 HT => ?_
        have HS : t0.size = 127 := by rw [HT]; rfl
        have h7 : t0[7]? = some (.pointer (some ⟨gx, 0, none⟩)) := by rw [HT]; rfl
        have h8 : t0[8]? = some (.pointer (some ⟨gy, 0, none⟩)) := by rw [HT]; rfl
        have h9 : t0[9]? = some (.slice (some ⟨gm, 0, none⟩) 4 4) := by rw [HT]; rfl
        have h10 : t0[10]? = some (.int .i64 (k : Nat)) := by rw [HT]; rfl
        have h11 : t0[11]? = some (.pointer (some ⟨gp, 0, none⟩)) := by rw [HT]; rfl
        have h12 : t0[12]? = some (.pointer (some ⟨gq, 0, none⟩)) := by rw [HT]; rfl
        refine wp_region_most 8 (fun i => [42, 43, 44, 45, 46, 47, 48, 13].getD i 0) (fun i => [none, none, none, none, none, none, none, some 5].getD i none) (fun i => [(· = .slice (some ⟨gm, 0, none⟩) 4 4), (· = .int .i64 (k : Nat)), (· = .pointer (some ⟨gm, k, none⟩)), (· = .int .u64 v), IsEl na, IsEl nb, IsEl (selF false na nb), (fun _ => True)].getD i (fun _ => True)) (fun w' => ElAt na gx w' ∧ ElAt nb gy w' ∧ WordsAt MS gm w' ∧ ElAt (selF false nb na) gp w' ∧ ElAt (selF false na nb) gq w' ∧ Below w.heap.size w w' ∧ M ≤ w'.heap.size) M
          (by kernel_rfl) (by kernel_rfl) (slots_apart (by kernel_rfl)) (slots_lie (by rw [HS]; kernel_rfl)) ⟨hS.1, hS.2.1, hS.2.2.1, hS.2.2.2.1, hS.2.2.2.2.1, (hS.2.2.2.2.2).drew, Nat.le_of_eq hM⟩ (fun w' h => h.2.2.2.2.2.2) (fun w1 w2 h b => ⟨(h.1).keep b, (h.2.1).keep b, (h.2.2.1).keep b, (h.2.2.2.1).keep b, (h.2.2.2.2.1).keep b, below_call b h.2.2.2.2.2.1, Nat.le_trans h.2.2.2.2.2.2 b.size⟩) ?_ ?_ ?_
        · clear hS
          intro i o hi ho hA
          have hc : i = 0 ∨ i = 1 ∨ i = 2 ∨ i = 3 ∨ i = 4 ∨ i = 5 ∨ i = 6 ∨ i = 7 := by omega
          rcases hc with rfl | rfl | rfl | rfl | rfl | rfl | rfl | rfl
          · obtain rfl := Option.some.inj ho
            refine ⟨rfl, fun a w' hS hold hin K hK => ?_⟩
            refine if_always rfl ?_
            exact op_move (V := (· = .slice (some ⟨gm, 0, none⟩) 4 4)) _ _ rfl rfl (eval_tmp ((hold 9 (slots_not (by kernel_rfl))).trans h9)) rfl hK
          · obtain rfl := Option.some.inj ho
            refine ⟨rfl, fun a w' hS hold hin K hK => ?_⟩
            refine if_always rfl ?_
            exact op_move (V := (· = .int .i64 (k : Nat))) _ _ rfl rfl (eval_tmp ((hold 10 (slots_not (by kernel_rfl))).trans h10)) rfl hK
          · obtain rfl := Option.some.inj ho
            refine ⟨rfl, fun a w' hS hold hin K hK => ?_⟩
            obtain ⟨y0, x0, rfl⟩ := hin 0 rfl (by omega) rfl
            obtain ⟨y1, x1, rfl⟩ := hin 1 rfl (by omega) rfl
            refine if_always rfl ?_
            exact op_word4 _ _ rfl rfl gm k hlt (eval_tmp x0) (eval_tmp x1) hK
          · obtain rfl := Option.some.inj ho
            refine ⟨rfl, fun a w' hS hold hin K hK => ?_⟩
            obtain ⟨y2, x2, rfl⟩ := hin 2 rfl (by omega) rfl
            refine if_always rfl ?_
            exact op_word _ rfl rfl gm k (eval_tmp x2) hS.2.2.1 (by rw [HL.out]; exact hlt) v HV.out hK
          · obtain rfl := Option.some.inj ho
            refine ⟨rfl, fun a w' hS hold hin K hK => ?_⟩
            refine if_always rfl ?_
            exact op_ld_el (.tmp 7) rfl rfl _ (eval_tmp ((hold 7 (slots_not (by kernel_rfl))).trans h7)) hS.1 hK
          · obtain rfl := Option.some.inj ho
            refine ⟨rfl, fun a w' hS hold hin K hK => ?_⟩
            refine if_always rfl ?_
            exact op_ld_el (.tmp 8) rfl rfl _ (eval_tmp ((hold 8 (slots_not (by kernel_rfl))).trans h8)) hS.2.1 hK
          · obtain rfl := Option.some.inj ho
            refine ⟨rfl, fun a w' hS hold hin K hK => ?_⟩
            obtain ⟨y3, x3, rfl⟩ := hin 3 rfl (by omega) rfl
            obtain ⟨y4, x4, (v4 : IsEl na y4)⟩ := hin 4 rfl (by omega) rfl
            obtain ⟨y5, x5, (v5 : IsEl nb y5)⟩ := hin 5 rfl (by omega) rfl
            refine if_always rfl ?_
            exact op_fn3 _ _ _ _ _ _ _ _ rfl rfl (eval_tmp x3) (eval_tmp x4) (eval_tmp x5) (by intro args w; kernel_rfl) (pick_ev false ⟨hvr, decide_eq_false hb⟩ v4 v5 _) hK
          · cases hA
        · intro i o sz hi ho hA
          have hc : i = 0 ∨ i = 1 ∨ i = 2 ∨ i = 3 ∨ i = 4 ∨ i = 5 ∨ i = 6 ∨ i = 7 := by omega
          rcases hc with rfl | rfl | rfl | rfl | rfl | rfl | rfl | rfl
          · cases hA
          · cases hA
          · cases hA
          · cases hA
          · cases hA
          · cases hA
          · cases hA
          · obtain rfl := Option.some.inj ho
            obtain rfl := Option.some.inj hA
            exact ⟨rfl, rfl, 26, #[.int .u64 0, .int .u64 0, .int .u64 0, .int .u64 0, .int .u64 0], rfl, fun a w' K h => wp_new 26 #[.int .u64 0, .int .u64 0, .int .u64 0, .int .u64 0, .int .u64 0] (fun w => by kernel_rfl) h⟩
        clear hS
        intro t1 V3 hs hold hout hall hne hS
        have ef := frame_fill 8 (fun i => [42, 43, 44, 45, 46, 47, 48, 13].getD i 0) hs hold (slots_apart (by kernel_rfl)) (slots_lie (by rw [HS]; kernel_rfl))
        replace HS := hs.trans HS
        obtain ⟨gr, h13, b13, r13⟩ : ∃ g, t1[13]? = some (.pointer (some ⟨g, 0, none⟩)) ∧ M ≤ g ∧ RowAt 5 g V3 := by
          obtain ⟨g, p1, p2, ty, cs, p3, p4⟩ := hall 7 (by omega) 5 rfl
          exact ⟨g, p1, p2, cs, ty, p3, p4⟩
        obtain ⟨x48, q48, v48⟩ : ∃ x, t1[48]? = some x ∧ (IsEl (selF false na nb)) x := hout 6 (by omega) rfl
        replace h7 := (hold 7 (slots_not (by kernel_rfl))).trans h7
        replace h8 := (hold 8 (slots_not (by kernel_rfl))).trans h8
        replace h9 := (hold 9 (slots_not (by kernel_rfl))).trans h9
        replace h10 := (hold 10 (slots_not (by kernel_rfl))).trans h10
        replace h11 := (hold 11 (slots_not (by kernel_rfl))).trans h11
        replace h12 := (hold 12 (slots_not (by kernel_rfl))).trans h12
        clear hold hout hall hne hs
        simp only [List.drop_succ_cons, List.drop_zero]
        have bb := Below.refl M V3
        refine st_el rfl (.tmp 13) (.tmp 48) rfl rfl _ _ (eval_tmp h13) (eval_tmp q48) v48 r13 fun V3' e13 p13 => ?_
        replace bb := bb.trans (p13.2.mono b13)
        refine wpList_nil ?_
        have hS2 : ElAt na gx V3' ∧ ElAt nb gy V3' ∧ WordsAt MS gm V3' ∧ ElAt (selF false nb na) gp V3' ∧ ElAt (selF false na nb) gq V3' ∧ ElAt (selF false na nb) gr V3' ∧ Below w.heap.size w V3' := ⟨(hS.1).under bb lt0, (hS.2.1).under bb lt1, (hS.2.2.1).under bb lt2, (hS.2.2.2.1).under bb lt3, (hS.2.2.2.2.1).under bb lt4, e13, (hS.2.2.2.2.2.1).trans (bb.mono hMB)⟩
        have g13 : t1.getD 13 undef = .pointer (some ⟨gr, 0, none⟩) := by rw [Array.getD_eq_getD_getElem?, h13]; rfl
        rw [ef, HT]
        clear ef
        simp only [fillA, if_true, List.getD_cons_zero, List.getD_cons_succ, List.setIfInBounds_toArray, List.set_cons_zero, List.set_cons_succ, g13]
        generalize t1.getD 42 undef = z42
        generalize t1.getD 43 undef = z43
        generalize t1.getD 44 undef = z44
        generalize t1.getD 45 undef = z45
        generalize t1.getD 46 undef = z46
        generalize t1.getD 47 undef = z47
        generalize t1.getD 48 undef = z48
        clear g13 HT
        clear hS
        have hS := hS2
        clear hS2
        clear h7 h8 h9 h10 h11 h12 h13 p13 r13 b13 e13 v48 q48 lt0 lt1 lt2 lt3 lt4 hMB bb HS t1 t0 hM M
        obtain ⟨tM, RM⟩ := hS.2.2.1
        have cM := (row_cell RM k).trans (valsK_get (by rw [HL.out]; exact hlt))
        rw [HV.out] at cM
        have hmod : (v.tmod 2 == 1) = false := by rw [Int.tmod_eq_emod_of_nonneg hvr.1]; simpa using hb
        have hS' := Lib.hid hS
        clear hS RM
        go_wp2_with ((with_reducible refine guard_list ?_); first | (refine held_load 26 _ rfl ?_) | (refine held_load 22 _ rfl ?_))
        have hmod2 : (v % 2 == 1) = false := beq_eq_false_iff_ne.2 hb
        have hS := hS'.out
        clear hS' cM hmod
        obtain ⟨M, hM⟩ : ∃ M, M = V3'.heap.size := ⟨_, rfl⟩
        have lt0 := (hS.1).lt
        have lt1 := (hS.2.1).lt
        have lt2 := (hS.2.2.1).lt
        have lt3 := (hS.2.2.2.1).lt
        have lt4 := (hS.2.2.2.2.1).lt
        have lt5 := (hS.2.2.2.2.2.1).lt
        rw [← hM] at lt0 lt1 lt2 lt3 lt4 lt5
        refine hide_held fun t0 HT => ?_
        have HS : t0.size = 127 := by rw [HT]; rfl
        have h7 : t0[7]? = some (.pointer (some ⟨gx, 0, none⟩)) := by rw [HT]; rfl
        have h8 : t0[8]? = some (.pointer (some ⟨gy, 0, none⟩)) := by rw [HT]; rfl
        have h9 : t0[9]? = some (.slice (some ⟨gm, 0, none⟩) 4 4) := by rw [HT]; rfl
        have h10 : t0[10]? = some (.int .i64 (k : Nat)) := by rw [HT]; rfl
        have h11 : t0[11]? = some (.pointer (some ⟨gp, 0, none⟩)) := by rw [HT]; rfl
        have h12 : t0[12]? = some (.pointer (some ⟨gq, 0, none⟩)) := by rw [HT]; rfl
        have h13 : t0[13]? = some (.pointer (some ⟨gr, 0, none⟩)) := by rw [HT]; rfl
        refine wp_from_all 49 (fun i => [49, 50, 51, 52, 53, 54, 55, 56, 57, 58, 59, 60, 61, 62, 63, 64, 65, 66, 67, 68, 69, 70, 71, 72, 73, 74, 75, 76, 77, 78, 79, 80, 81, 82, 83, 84, 85, 86, 87, 88, 89, 90, 91, 92, 93, 94, 95, 96, 97, 98].getD i 0) (fun i => [(fun _ => True), (fun _ => True), (fun _ => True), (fun _ => True), (fun _ => True), (fun _ => True), (· = .bool false), (· = undef), (· = undef), (· = undef), (· = undef), (· = undef), (· = undef), (· = undef), (· = undef), (· = undef), (· = undef), (· = undef), (· = undef), (· = undef), (· = undef), (· = undef), (· = undef), (· = .bool false), (· = .bool false), (· = .slice (some ⟨gm, 0, none⟩) 4 4), (· = .int .i64 (k : Nat)), (· = .pointer (some ⟨gm, k, none⟩)), (· = .int .u64 v), (· = .int .u64 0), (· = .bool true), (· = .bool true), IsEl (selF false nb na), IsEl na, (· = .bool true), (· = .bool false), (· = .bool false), IsEl (selF false na nb), IsEl nb, (· = .bool true), (· = .bool false), (· = .bool false), (· = .bool false), IsEl (selF false na nb), IsEl nb, (· = .bool true), (· = .bool false), (· = .bool false), (· = .bool false), (· = .bool false)].getD i (fun _ => True)) (fun w' => ElAt na gx w' ∧ ElAt nb gy w' ∧ WordsAt MS gm w' ∧ ElAt (selF false nb na) gp w' ∧ ElAt (selF false na nb) gq w' ∧ ElAt (selF false na nb) gr w' ∧ Below w.heap.size w w' ∧ M ≤ w'.heap.size)
          7 (by omega) (by kernel_rfl) ?_ (by kernel_rfl) (slots_apart (by kernel_rfl)) (slots_lie (by rw [HS]; kernel_rfl)) ⟨hS.1, hS.2.1, hS.2.2.1, hS.2.2.2.1, hS.2.2.2.2.1, hS.2.2.2.2.2.1, hS.2.2.2.2.2.2, Nat.le_of_eq hM⟩ (fun w1 w2 h b => ⟨(h.1).keep b, (h.2.1).keep b, (h.2.2.1).keep b, (h.2.2.2.1).keep b, (h.2.2.2.2.1).keep b, (h.2.2.2.2.2.1).keep b, below_call b h.2.2.2.2.2.2.1, Nat.le_trans h.2.2.2.2.2.2.2 b.size⟩) ?_ ?_
        · intro j hj
          have hc : j = 0 ∨ j = 1 ∨ j = 2 ∨ j = 3 ∨ j = 4 ∨ j = 5 ∨ j = 6 := by omega
          rcases hc with rfl | rfl | rfl | rfl | rfl | rfl | rfl
          · exact ⟨_, by rw [HT]; rfl, trivial⟩
          · exact ⟨_, by rw [HT]; rfl, trivial⟩
          · exact ⟨_, by rw [HT]; rfl, trivial⟩
          · exact ⟨_, by rw [HT]; rfl, trivial⟩
          · exact ⟨_, by rw [HT]; rfl, trivial⟩
          · exact ⟨_, by rw [HT]; rfl, trivial⟩
          · exact ⟨_, by rw [HT]; rfl, congrArg Value.bool hmod2⟩
        · clear hS
          intro i o h0i hi ho
          have hc : i = 7 ∨ i = 8 ∨ i = 9 ∨ i = 10 ∨ i = 11 ∨ i = 12 ∨ i = 13 ∨ i = 14 ∨ i = 15 ∨ i = 16 ∨ i = 17 ∨ i = 18 ∨ i = 19 ∨ i = 20 ∨ i = 21 ∨ i = 22 ∨ i = 23 ∨ i = 24 ∨ i = 25 ∨ i = 26 ∨ i = 27 ∨ i = 28 ∨ i = 29 ∨ i = 30 ∨ i = 31 ∨ i = 32 ∨ i = 33 ∨ i = 34 ∨ i = 35 ∨ i = 36 ∨ i = 37 ∨ i = 38 ∨ i = 39 ∨ i = 40 ∨ i = 41 ∨ i = 42 ∨ i = 43 ∨ i = 44 ∨ i = 45 ∨ i = 46 ∨ i = 47 ∨ i = 48 ∨ i = 49 := by omega
          rcases hc with rfl | rfl | rfl | rfl | rfl | rfl | rfl | rfl | rfl | rfl | rfl | rfl | rfl | rfl | rfl | rfl | rfl | rfl | rfl | rfl | rfl | rfl | rfl | rfl | rfl | rfl | rfl | rfl | rfl | rfl | rfl | rfl | rfl | rfl | rfl | rfl | rfl | rfl | rfl | rfl | rfl | rfl | rfl
          · obtain rfl := Option.some.inj ho
            refine ⟨rfl, fun a w' hS hold hin K hK => ?_⟩
            obtain ⟨y6, x6, rfl⟩ := hin 6 rfl (by omega)
            exact if_guard_off (d := 55) rfl rfl x6 (by decide) (hK _ _ rfl (Below.refl _ _))
          · obtain rfl := Option.some.inj ho
            refine ⟨rfl, fun a w' hS hold hin K hK => ?_⟩
            obtain ⟨y6, x6, rfl⟩ := hin 6 rfl (by omega)
            exact if_guard_off (d := 55) rfl rfl x6 (by decide) (hK _ _ rfl (Below.refl _ _))
          · obtain rfl := Option.some.inj ho
            refine ⟨rfl, fun a w' hS hold hin K hK => ?_⟩
            obtain ⟨y6, x6, rfl⟩ := hin 6 rfl (by omega)
            exact if_guard_off (d := 55) rfl rfl x6 (by decide) (hK _ _ rfl (Below.refl _ _))
          · obtain rfl := Option.some.inj ho
            refine ⟨rfl, fun a w' hS hold hin K hK => ?_⟩
            obtain ⟨y6, x6, rfl⟩ := hin 6 rfl (by omega)
            exact if_guard_off (d := 55) rfl rfl x6 (by decide) (hK _ _ rfl (Below.refl _ _))
          · obtain rfl := Option.some.inj ho
            refine ⟨rfl, fun a w' hS hold hin K hK => ?_⟩
            obtain ⟨y6, x6, rfl⟩ := hin 6 rfl (by omega)
            exact if_guard_off (d := 55) rfl rfl x6 (by decide) (hK _ _ rfl (Below.refl _ _))
          · obtain rfl := Option.some.inj ho
            refine ⟨rfl, fun a w' hS hold hin K hK => ?_⟩
            obtain ⟨y11, x11, rfl⟩ := hin 11 rfl (by omega)
            exact if_guard_un (d := 60) rfl rfl x11 (hK _ _ rfl (Below.refl _ _))
          · obtain rfl := Option.some.inj ho
            refine ⟨rfl, fun a w' hS hold hin K hK => ?_⟩
            obtain ⟨y11, x11, rfl⟩ := hin 11 rfl (by omega)
            exact if_guard_un (d := 60) rfl rfl x11 (hK _ _ rfl (Below.refl _ _))
          · obtain rfl := Option.some.inj ho
            refine ⟨rfl, fun a w' hS hold hin K hK => ?_⟩
            obtain ⟨y11, x11, rfl⟩ := hin 11 rfl (by omega)
            exact if_guard_un (d := 60) rfl rfl x11 (hK _ _ rfl (Below.refl _ _))
          · obtain rfl := Option.some.inj ho
            refine ⟨rfl, fun a w' hS hold hin K hK => ?_⟩
            obtain ⟨y11, x11, rfl⟩ := hin 11 rfl (by omega)
            exact if_guard_un (d := 60) rfl rfl x11 (hK _ _ rfl (Below.refl _ _))
          · obtain rfl := Option.some.inj ho
            refine ⟨rfl, fun a w' hS hold hin K hK => ?_⟩
            obtain ⟨y6, x6, rfl⟩ := hin 6 rfl (by omega)
            exact if_guard_off (d := 55) rfl rfl x6 (by decide) (hK _ _ rfl (Below.refl _ _))
          · obtain rfl := Option.some.inj ho
            refine ⟨rfl, fun a w' hS hold hin K hK => ?_⟩
            obtain ⟨y6, x6, rfl⟩ := hin 6 rfl (by omega)
            exact if_guard_off (d := 55) rfl rfl x6 (by decide) (hK _ _ rfl (Below.refl _ _))
          · obtain rfl := Option.some.inj ho
            refine ⟨rfl, fun a w' hS hold hin K hK => ?_⟩
            obtain ⟨y17, x17, rfl⟩ := hin 17 rfl (by omega)
            exact if_guard_un (d := 66) rfl rfl x17 (hK _ _ rfl (Below.refl _ _))
          · obtain rfl := Option.some.inj ho
            refine ⟨rfl, fun a w' hS hold hin K hK => ?_⟩
            obtain ⟨y17, x17, rfl⟩ := hin 17 rfl (by omega)
            exact if_guard_un (d := 66) rfl rfl x17 (hK _ _ rfl (Below.refl _ _))
          · obtain rfl := Option.some.inj ho
            refine ⟨rfl, fun a w' hS hold hin K hK => ?_⟩
            obtain ⟨y17, x17, rfl⟩ := hin 17 rfl (by omega)
            exact if_guard_un (d := 66) rfl rfl x17 (hK _ _ rfl (Below.refl _ _))
          · obtain rfl := Option.some.inj ho
            refine ⟨rfl, fun a w' hS hold hin K hK => ?_⟩
            obtain ⟨y17, x17, rfl⟩ := hin 17 rfl (by omega)
            exact if_guard_un (d := 66) rfl rfl x17 (hK _ _ rfl (Below.refl _ _))
          · obtain rfl := Option.some.inj ho
            refine ⟨rfl, fun a w' hS hold hin K hK => ?_⟩
            obtain ⟨y6, x6, rfl⟩ := hin 6 rfl (by omega)
            exact if_guard_off (d := 55) rfl rfl x6 (by decide) (hK _ _ rfl (Below.refl _ _))
          · obtain rfl := Option.some.inj ho
            refine ⟨rfl, fun a w' hS hold hin K hK => ?_⟩
            obtain ⟨y6, x6, rfl⟩ := hin 6 rfl (by omega)
            refine if_always rfl ?_
            exact op_pick (V := (· = .bool false)) _ _ _ false _ rfl rfl (eval_tmp x6) (show Act.eval a (.const (.bool false)) = (.bool false) from rfl) rfl hK
          · obtain rfl := Option.some.inj ho
            refine ⟨rfl, fun a w' hS hold hin K hK => ?_⟩
            obtain ⟨y23, x23, rfl⟩ := hin 23 rfl (by omega)
            refine if_always rfl ?_
            exact op_move (V := (· = .bool false)) _ _ rfl rfl (eval_tmp x23) rfl hK
          · obtain rfl := Option.some.inj ho
            refine ⟨rfl, fun a w' hS hold hin K hK => ?_⟩
            obtain ⟨y24, x24, rfl⟩ := hin 24 rfl (by omega)
            refine if_guard (d := 73) rfl rfl x24 ?_
            exact op_move (V := (· = .slice (some ⟨gm, 0, none⟩) 4 4)) _ _ rfl rfl (eval_tmp ((hold 9 (slots_not (by kernel_rfl))).trans h9)) rfl hK
          · obtain rfl := Option.some.inj ho
            refine ⟨rfl, fun a w' hS hold hin K hK => ?_⟩
            obtain ⟨y24, x24, rfl⟩ := hin 24 rfl (by omega)
            refine if_guard (d := 73) rfl rfl x24 ?_
            exact op_move (V := (· = .int .i64 (k : Nat))) _ _ rfl rfl (eval_tmp ((hold 10 (slots_not (by kernel_rfl))).trans h10)) rfl hK
          · obtain rfl := Option.some.inj ho
            refine ⟨rfl, fun a w' hS hold hin K hK => ?_⟩
            obtain ⟨y24, x24, rfl⟩ := hin 24 rfl (by omega)
            obtain ⟨y25, x25, rfl⟩ := hin 25 rfl (by omega)
            obtain ⟨y26, x26, rfl⟩ := hin 26 rfl (by omega)
            refine if_guard (d := 73) rfl rfl x24 ?_
            exact op_word4 _ _ rfl rfl gm k hlt (eval_tmp x25) (eval_tmp x26) hK
          · obtain rfl := Option.some.inj ho
            refine ⟨rfl, fun a w' hS hold hin K hK => ?_⟩
            obtain ⟨y24, x24, rfl⟩ := hin 24 rfl (by omega)
            obtain ⟨y27, x27, rfl⟩ := hin 27 rfl (by omega)
            refine if_guard (d := 73) rfl rfl x24 ?_
            exact op_word _ rfl rfl gm k (eval_tmp x27) hS.2.2.1 (by rw [HL.out]; exact hlt) v HV.out hK
          · obtain rfl := Option.some.inj ho
            refine ⟨rfl, fun a w' hS hold hin K hK => ?_⟩
            obtain ⟨y24, x24, rfl⟩ := hin 24 rfl (by omega)
            obtain ⟨y28, x28, rfl⟩ := hin 28 rfl (by omega)
            refine if_guard (d := 73) rfl rfl x24 ?_
            exact op_bin (V := (· = .int .u64 0)) _ _ _ _ _ _ _ (.int .u64 0) rfl rfl (eval_tmp x28) rfl (fun w => rem_two v 0 hvr.1 (by omega) w) rfl hK
          · obtain rfl := Option.some.inj ho
            refine ⟨rfl, fun a w' hS hold hin K hK => ?_⟩
            obtain ⟨y24, x24, rfl⟩ := hin 24 rfl (by omega)
            obtain ⟨y29, x29, rfl⟩ := hin 29 rfl (by omega)
            refine if_guard (d := 73) rfl rfl x24 ?_
            exact op_bin (V := (· = .bool true)) _ _ _ _ _ _ _ (.bool true) rfl rfl (eval_tmp x29) rfl (fun w => by kernel_rfl) rfl hK
          · obtain rfl := Option.some.inj ho
            refine ⟨rfl, fun a w' hS hold hin K hK => ?_⟩
            obtain ⟨y24, x24, rfl⟩ := hin 24 rfl (by omega)
            obtain ⟨y30, x30, rfl⟩ := hin 30 rfl (by omega)
            refine if_guard (d := 73) rfl rfl x24 ?_
            exact op_move (V := (· = .bool true)) _ _ rfl rfl (eval_tmp x30) rfl hK
          · obtain rfl := Option.some.inj ho
            refine ⟨rfl, fun a w' hS hold hin K hK => ?_⟩
            obtain ⟨y31, x31, rfl⟩ := hin 31 rfl (by omega)
            refine if_guard (d := 80) rfl rfl x31 ?_
            exact op_ld_el (.tmp 11) rfl rfl _ (eval_tmp ((hold 11 (slots_not (by kernel_rfl))).trans h11)) hS.2.2.2.1 hK
          · obtain rfl := Option.some.inj ho
            refine ⟨rfl, fun a w' hS hold hin K hK => ?_⟩
            obtain ⟨y31, x31, rfl⟩ := hin 31 rfl (by omega)
            refine if_guard (d := 80) rfl rfl x31 ?_
            exact op_ld_el (.tmp 7) rfl rfl _ (eval_tmp ((hold 7 (slots_not (by kernel_rfl))).trans h7)) hS.1 hK
          · obtain rfl := Option.some.inj ho
            refine ⟨rfl, fun a w' hS hold hin K hK => ?_⟩
            obtain ⟨y31, x31, rfl⟩ := hin 31 rfl (by omega)
            obtain ⟨y32, x32, (v32 : IsEl (selF false nb na) y32)⟩ := hin 32 rfl (by omega)
            obtain ⟨y33, x33, (v33 : IsEl na y33)⟩ := hin 33 rfl (by omega)
            refine if_guard (d := 80) rfl rfl x31 ?_
            exact op_fn2 _ _ _ _ _ _ rfl rfl (eval_tmp x32) (eval_tmp x33) (by intro args w; kernel_rfl) (one_el v32 v33 rfl _) hK
          · obtain rfl := Option.some.inj ho
            refine ⟨rfl, fun a w' hS hold hin K hK => ?_⟩
            obtain ⟨y31, x31, rfl⟩ := hin 31 rfl (by omega)
            obtain ⟨y34, x34, rfl⟩ := hin 34 rfl (by omega)
            refine if_guard (d := 80) rfl rfl x31 ?_
            exact op_un (V := (· = .bool false)) _ _ _ _ (.bool false) rfl rfl (eval_tmp x34) (fun w => by kernel_rfl) rfl hK
          · obtain rfl := Option.some.inj ho
            refine ⟨rfl, fun a w' hS hold hin K hK => ?_⟩
            obtain ⟨y31, x31, rfl⟩ := hin 31 rfl (by omega)
            obtain ⟨y35, x35, rfl⟩ := hin 35 rfl (by omega)
            refine if_guard (d := 80) rfl rfl x31 ?_
            exact op_move (V := (· = .bool false)) _ _ rfl rfl (eval_tmp x35) rfl hK
          · obtain rfl := Option.some.inj ho
            refine ⟨rfl, fun a w' hS hold hin K hK => ?_⟩
            obtain ⟨y36, x36, rfl⟩ := hin 36 rfl (by omega)
            refine if_guard (d := 85) rfl rfl x36 ?_
            exact op_ld_el (.tmp 12) rfl rfl _ (eval_tmp ((hold 12 (slots_not (by kernel_rfl))).trans h12)) hS.2.2.2.2.1 hK
          · obtain rfl := Option.some.inj ho
            refine ⟨rfl, fun a w' hS hold hin K hK => ?_⟩
            obtain ⟨y36, x36, rfl⟩ := hin 36 rfl (by omega)
            refine if_guard (d := 85) rfl rfl x36 ?_
            exact op_ld_el (.tmp 8) rfl rfl _ (eval_tmp ((hold 8 (slots_not (by kernel_rfl))).trans h8)) hS.2.1 hK
          · obtain rfl := Option.some.inj ho
            refine ⟨rfl, fun a w' hS hold hin K hK => ?_⟩
            obtain ⟨y36, x36, rfl⟩ := hin 36 rfl (by omega)
            obtain ⟨y37, x37, (v37 : IsEl (selF false na nb) y37)⟩ := hin 37 rfl (by omega)
            obtain ⟨y38, x38, (v38 : IsEl nb y38)⟩ := hin 38 rfl (by omega)
            refine if_guard (d := 85) rfl rfl x36 ?_
            exact op_fn2 _ _ _ _ _ _ rfl rfl (eval_tmp x37) (eval_tmp x38) (by intro args w; kernel_rfl) (one_el v37 v38 rfl _) hK
          · obtain rfl := Option.some.inj ho
            refine ⟨rfl, fun a w' hS hold hin K hK => ?_⟩
            obtain ⟨y36, x36, rfl⟩ := hin 36 rfl (by omega)
            obtain ⟨y39, x39, rfl⟩ := hin 39 rfl (by omega)
            refine if_guard (d := 85) rfl rfl x36 ?_
            exact op_un (V := (· = .bool false)) _ _ _ _ (.bool false) rfl rfl (eval_tmp x39) (fun w => by kernel_rfl) rfl hK
          · obtain rfl := Option.some.inj ho
            refine ⟨rfl, fun a w' hS hold hin K hK => ?_⟩
            obtain ⟨y31, x31, rfl⟩ := hin 31 rfl (by omega)
            obtain ⟨y36, x36, rfl⟩ := hin 36 rfl (by omega)
            obtain ⟨y40, x40, rfl⟩ := hin 40 rfl (by omega)
            refine if_guard (d := 80) rfl rfl x31 ?_
            exact op_pick (V := (· = .bool false)) _ _ _ false _ rfl rfl (eval_tmp x36) (show (Act.eval a _) = _ from (eval_tmp x40)) rfl hK
          · obtain rfl := Option.some.inj ho
            refine ⟨rfl, fun a w' hS hold hin K hK => ?_⟩
            obtain ⟨y31, x31, rfl⟩ := hin 31 rfl (by omega)
            obtain ⟨y41, x41, rfl⟩ := hin 41 rfl (by omega)
            refine if_guard (d := 80) rfl rfl x31 ?_
            exact op_move (V := (· = .bool false)) _ _ rfl rfl (eval_tmp x41) rfl hK
          · obtain rfl := Option.some.inj ho
            refine ⟨rfl, fun a w' hS hold hin K hK => ?_⟩
            obtain ⟨y42, x42, rfl⟩ := hin 42 rfl (by omega)
            refine if_guard (d := 91) rfl rfl x42 ?_
            exact op_ld_el (.tmp 13) rfl rfl _ (eval_tmp ((hold 13 (slots_not (by kernel_rfl))).trans h13)) hS.2.2.2.2.2.1 hK
          · obtain rfl := Option.some.inj ho
            refine ⟨rfl, fun a w' hS hold hin K hK => ?_⟩
            obtain ⟨y42, x42, rfl⟩ := hin 42 rfl (by omega)
            refine if_guard (d := 91) rfl rfl x42 ?_
            exact op_ld_el (.tmp 8) rfl rfl _ (eval_tmp ((hold 8 (slots_not (by kernel_rfl))).trans h8)) hS.2.1 hK
          · obtain rfl := Option.some.inj ho
            refine ⟨rfl, fun a w' hS hold hin K hK => ?_⟩
            obtain ⟨y42, x42, rfl⟩ := hin 42 rfl (by omega)
            obtain ⟨y43, x43, (v43 : IsEl (selF false na nb) y43)⟩ := hin 43 rfl (by omega)
            obtain ⟨y44, x44, (v44 : IsEl nb y44)⟩ := hin 44 rfl (by omega)
            refine if_guard (d := 91) rfl rfl x42 ?_
            exact op_fn2 _ _ _ _ _ _ rfl rfl (eval_tmp x43) (eval_tmp x44) (by intro args w; kernel_rfl) (one_el v43 v44 rfl _) hK
          · obtain rfl := Option.some.inj ho
            refine ⟨rfl, fun a w' hS hold hin K hK => ?_⟩
            obtain ⟨y42, x42, rfl⟩ := hin 42 rfl (by omega)
            obtain ⟨y45, x45, rfl⟩ := hin 45 rfl (by omega)
            refine if_guard (d := 91) rfl rfl x42 ?_
            exact op_un (V := (· = .bool false)) _ _ _ _ (.bool false) rfl rfl (eval_tmp x45) (fun w => by kernel_rfl) rfl hK
          · obtain rfl := Option.some.inj ho
            refine ⟨rfl, fun a w' hS hold hin K hK => ?_⟩
            obtain ⟨y31, x31, rfl⟩ := hin 31 rfl (by omega)
            obtain ⟨y42, x42, rfl⟩ := hin 42 rfl (by omega)
            obtain ⟨y46, x46, rfl⟩ := hin 46 rfl (by omega)
            refine if_guard (d := 80) rfl rfl x31 ?_
            exact op_pick (V := (· = .bool false)) _ _ _ false _ rfl rfl (eval_tmp x42) (show (Act.eval a _) = _ from (eval_tmp x46)) rfl hK
          · obtain rfl := Option.some.inj ho
            refine ⟨rfl, fun a w' hS hold hin K hK => ?_⟩
            obtain ⟨y24, x24, rfl⟩ := hin 24 rfl (by omega)
            obtain ⟨y31, x31, rfl⟩ := hin 31 rfl (by omega)
            obtain ⟨y47, x47, rfl⟩ := hin 47 rfl (by omega)
            refine if_guard (d := 73) rfl rfl x24 ?_
            exact op_pick (V := (· = .bool false)) _ _ _ true _ rfl rfl (eval_tmp x31) (show (Act.eval a _) = _ from (eval_tmp x47)) rfl hK
          · obtain rfl := Option.some.inj ho
            refine ⟨rfl, fun a w' hS hold hin K hK => ?_⟩
            obtain ⟨y24, x24, rfl⟩ := hin 24 rfl (by omega)
            obtain ⟨y48, x48, rfl⟩ := hin 48 rfl (by omega)
            refine if_always rfl ?_
            exact op_pick (V := (· = .bool false)) _ _ _ false _ rfl rfl (eval_tmp x24) (show (Act.eval a _) = _ from (eval_tmp x48)) rfl hK
        clear hS
        intro t1 W4 hs hold hout hS
        have ef := frame_fill 50 (fun i => [49, 50, 51, 52, 53, 54, 55, 56, 57, 58, 59, 60, 61, 62, 63, 64, 65, 66, 67, 68, 69, 70, 71, 72, 73, 74, 75, 76, 77, 78, 79, 80, 81, 82, 83, 84, 85, 86, 87, 88, 89, 90, 91, 92, 93, 94, 95, 96, 97, 98].getD i 0) hs hold (slots_apart (by kernel_rfl)) (slots_lie (by rw [HS]; kernel_rfl))
        replace HS := hs.trans HS
        obtain ⟨_, q98, rfl⟩ : ∃ x, t1[98]? = some x ∧ x = (.bool false : Value) := hout 49 (by omega)
        have g98 : t1.getD 98 undef = .bool false := by rw [Array.getD_eq_getD_getElem?, q98]; rfl
        rw [ef, HT]
        clear ef
        simp only [fillA, if_true, List.getD_cons_zero, List.getD_cons_succ, List.setIfInBounds_toArray, List.set_cons_zero, List.set_cons_succ, g98]
        generalize t1.getD 49 undef = x49
        generalize t1.getD 50 undef = x50
        generalize t1.getD 51 undef = x51
        generalize t1.getD 52 undef = x52
        generalize t1.getD 53 undef = x53
        generalize t1.getD 54 undef = x54
        generalize t1.getD 55 undef = x55
        generalize t1.getD 56 undef = x56
        generalize t1.getD 57 undef = x57
        generalize t1.getD 58 undef = x58
        generalize t1.getD 59 undef = x59
        generalize t1.getD 60 undef = x60
        generalize t1.getD 61 undef = x61
        generalize t1.getD 62 undef = x62
        generalize t1.getD 63 undef = x63
        generalize t1.getD 64 undef = x64
        generalize t1.getD 65 undef = x65
        generalize t1.getD 66 undef = x66
        generalize t1.getD 67 undef = x67
        generalize t1.getD 68 undef = x68
        generalize t1.getD 69 undef = x69
        generalize t1.getD 70 undef = x70
        generalize t1.getD 71 undef = x71
        generalize t1.getD 72 undef = x72
        generalize t1.getD 73 undef = x73
        generalize t1.getD 74 undef = x74
        generalize t1.getD 75 undef = x75
        generalize t1.getD 76 undef = x76
        generalize t1.getD 77 undef = x77
        generalize t1.getD 78 undef = x78
        generalize t1.getD 79 undef = x79
        generalize t1.getD 80 undef = x80
        generalize t1.getD 81 undef = x81
        generalize t1.getD 82 undef = x82
        generalize t1.getD 83 undef = x83
        generalize t1.getD 84 undef = x84
        generalize t1.getD 85 undef = x85
        generalize t1.getD 86 undef = x86
        generalize t1.getD 87 undef = x87
        generalize t1.getD 88 undef = x88
        generalize t1.getD 89 undef = x89
        generalize t1.getD 90 undef = x90
        generalize t1.getD 91 undef = x91
        generalize t1.getD 92 undef = x92
        generalize t1.getD 93 undef = x93
        generalize t1.getD 94 undef = x94
        generalize t1.getD 95 undef = x95
        generalize t1.getD 96 undef = x96
        generalize t1.getD 97 undef = x97
        clear g98 HT
        clear h7 h8 h9 h10 h11 h12 h13 q98 hold hout hs HS t1 t0
        have hS' := hS
        clear hS
        have hS : ElAt na gx W4 ∧ ElAt nb gy W4 ∧ WordsAt MS gm W4 ∧ ElAt (selF false nb na) gp W4 ∧ ElAt (selF false na nb) gq W4 ∧ ElAt (selF false na nb) gr W4 ∧ Below w.heap.size w W4 := ⟨hS'.1, hS'.2.1, hS'.2.2.1, hS'.2.2.2.1, hS'.2.2.2.2.1, hS'.2.2.2.2.2.1, hS'.2.2.2.2.2.2.1⟩
        clear hS' lt0 lt1 lt2 lt3 lt4 lt5
        clear hM
        clear M
        go_wp2_with fail
        go_roundw
        case rel => exact ⟨k + 1, by omega, by go_num, hS.1, hS.2.1, hS.2.2.1, hS.2.2.2.2.2.2⟩
        case measure => simp [intOf]; omega
    · have hk4 : ¬ ((k : Int) < 4) := by omega
      go_wp2_with fail
      have hS3 : ElAt na gx (wr.alloc (.cells #[.int .u64 0, .int .u64 0, .int .u64 0, .int .u64 0, .int .u64 0] 26)) ∧ ElAt (Fin.ofNat P 0 * na) wr.heap.size (wr.alloc (.cells #[.int .u64 0, .int .u64 0, .int .u64 0, .int .u64 0, .int .u64 0] 26)) ∧ Below w.heap.size w (wr.alloc (.cells #[.int .u64 0, .int .u64 0, .int .u64 0, .int .u64 0, .int .u64 0] 26)) := ⟨hS.1.keep ((Below.refl _ _).alloc (Nat.le_refl _) _), by rw [show Fin.ofNat P 0 * na = 0 from zero_mul_f na]; exact .mk row_new el_zero, hS.2.2.2.alloc hS.2.2.2.size _⟩
      have hgx := hS.1.lt
      have hbs := hS.2.2.2.size
      clear hS
      generalize wr.alloc (.cells #[.int .u64 0, .int .u64 0, .int .u64 0, .int .u64 0, .int .u64 0] 26) = Wn at hS3 ⊢
      generalize wr.heap.size = gs at hS3 hgx hbs ⊢
      go_loopw [15] (fun i wr => ∃ j : Nat, j ≤ m % 40 ∧ i = .int .u64 j ∧ ElAt na gx wr ∧ ElAt (Fin.ofNat P j * na) gs wr ∧ Below w.heap.size w wr) (fun i _ => m % 40 - (intOf i).toNat)
      case atStart => exact ⟨0, Nat.zero_le _, rfl, hS3⟩
      case round =>
        obtain ⟨j, hj, rfl, hS⟩ := hrel
        clear hS3
        by_cases hjl : j < m % 40
        · obtain ⟨x0, x1, x2, x3, x4, tx, RX, HX⟩ := hS.1.open
          obtain ⟨s0, s1, s2, s3, s4, ts, RG, HG⟩ := hS.2.1.open
          have hB := hS.2.2
          clear hS
          have hjm : (j : Int) < (m : Int) % 40 := by omega
          go_wp2_with (first | (refine ld_row rfl 26 (.tmp 14) rfl _ (by rfl) _ _ RG 5 tElem (by rfl) ?_) | (refine ld_row rfl 26 (.tmp 7) rfl _ (by rfl) _ _ RX 5 tElem (by rfl) ?_))
          refine (add_any _ _ _ _ _ _ _ _ _ _ _ _ _ HG HX).mono ?_
          rintro e w4 ⟨z0, z1, z2, z3, z4, rfl, HZ, b4⟩
          have RX4 := row_call b4 RX
          have RG4 := row_call b4 RG
          have B4 := below_call b4 hB
          clear b4 RX RG hB HG
          have hsum : Fin.ofNat P j * na + na = Fin.ofNat P (j + 1) * na := step_mul_f j na
          rw [hsum] at HZ
          have E1 := ElAt.mk (row_put_other (cs := #[.int .u64 z0, .int .u64 z1, .int .u64 z2, .int .u64 z3, .int .u64 z4]) RX4 (by omega : gx ≠ gs)) HX
          have E2 := ElAt.mk (row_put (cs' := #[.int .u64 z0, .int .u64 z1, .int .u64 z2, .int .u64 z3, .int .u64 z4]) RG4) HZ
          have B5 := below_setRow B4 hbs #[.int .u64 z0, .int .u64 z1, .int .u64 z2, .int .u64 z3, .int .u64 z4]
          clear hsum HX HZ
          go_wp2_with (refine st_row rfl 26 (.tmp 14) _ rfl _ _ (by rfl) (by rfl) _ _ RG4 5 tElem (by rfl) (by rfl) (ev_one ..) ?_)
          go_roundw
          case rel => exact ⟨j + 1, by omega, by go_num, E1, E2, B5⟩
          case measure => simp [intOf]; omega
        · obtain rfl : j = m % 40 := by omega
          have hjm : ¬ (((m % 40 : Nat) : Int) < (m : Int) % 40) := by omega
          have hS' := Lib.hid hS
          clear hS
          go_wp2_with fail
          have hS := hS'.out
          clear hS' hjm
          obtain ⟨M, hM⟩ : ∃ M, M = wr.heap.size := ⟨_, rfl⟩
          have lt0 := (hS.1).lt
          have lt1 := (hS.2.1).lt
          rw [← hM] at lt0 lt1
          refine hide_frame fun t0 HT => ?_
          have HS : t0.size = 127 := by rw [HT]; rfl
          have h7 : t0[7]? = some (.pointer (some ⟨gx, 0, none⟩)) := by rw [HT]; rfl
          have h14 : t0[14]? = some (.pointer (some ⟨gs, 0, none⟩)) := by rw [HT]; rfl
          have h2 : t0[2]? = some (.int .u64 (m : Nat)) := by rw [HT]; rfl
          clear HT
          refine wp_region_all 19 (fun i => [108, 109, 110, 111, 112, 113, 114, 115, 116, 117, 118, 119, 120, 121, 122, 123, 124, 125, 126, 6].getD i 0) (fun i => [IsEl (Fin.ofNat P (m % 40) * na), IsEl na, (· = .int .u64 (m : Nat)), (· = .int .u64 ((m % 40 : Nat) : Int)), (· = .int .u32 ((m % 40 : Nat) : Int)), IsEl (na * Fin.ofNat P (m % 40)), (· = .bool true), (· = .bool true), IsEl na, (· = .int .u64 (m : Nat)), (· = .int .u32 ((m % 4294967296 : Nat) : Int)), IsEl (na * Fin.ofNat P (m % 4294967296)), IsEl na, (· = .int .u64 (m : Nat)), (· = .int .u64 ((m % 4294967296 : Nat) : Int)), IsEl (Fin.ofNat P (m % 4294967296)), IsEl (na * (Fin.ofNat P (m % 4294967296))), (· = .bool true), (· = .bool true), (· = .bool true)].getD i (fun _ => True)) (fun w' => ElAt na gx w' ∧ ElAt (Fin.ofNat P (m % 40) * na) gs w' ∧ Below w.heap.size w w' ∧ M ≤ w'.heap.size)
            (by kernel_rfl) (by kernel_rfl) (by kernel_rfl) (slots_apart (by kernel_rfl)) (slots_lie (by rw [HS]; kernel_rfl)) ⟨hS.1, hS.2.1, (hS.2.2).drew, Nat.le_of_eq hM⟩ (fun w1 w2 h b => ⟨(h.1).keep b, (h.2.1).keep b, below_call b h.2.2.1, Nat.le_trans h.2.2.2 b.size⟩) ?_ ?_
          · clear hS
            intro i o hi ho
            have hc : i = 0 ∨ i = 1 ∨ i = 2 ∨ i = 3 ∨ i = 4 ∨ i = 5 ∨ i = 6 ∨ i = 7 ∨ i = 8 ∨ i = 9 ∨ i = 10 ∨ i = 11 ∨ i = 12 ∨ i = 13 ∨ i = 14 ∨ i = 15 ∨ i = 16 ∨ i = 17 ∨ i = 18 ∨ i = 19 := by omega
            rcases hc with rfl | rfl | rfl | rfl | rfl | rfl | rfl | rfl | rfl | rfl | rfl | rfl | rfl | rfl | rfl | rfl | rfl | rfl | rfl | rfl
            · obtain rfl := Option.some.inj ho
              refine ⟨rfl, fun a w' hS hold hin K hK => ?_⟩
              refine if_always rfl ?_
              exact op_ld_el (.tmp 14) rfl rfl _ (eval_tmp ((hold 14 (slots_not (by kernel_rfl))).trans h14)) hS.2.1 hK
            · obtain rfl := Option.some.inj ho
              refine ⟨rfl, fun a w' hS hold hin K hK => ?_⟩
              refine if_always rfl ?_
              exact op_ld_el (.tmp 7) rfl rfl _ (eval_tmp ((hold 7 (slots_not (by kernel_rfl))).trans h7)) hS.1 hK
            · obtain rfl := Option.some.inj ho
              refine ⟨rfl, fun a w' hS hold hin K hK => ?_⟩
              refine if_always rfl ?_
              exact op_move (V := (· = .int .u64 (m : Nat))) _ _ rfl rfl (eval_tmp ((hold 2 (slots_not (by kernel_rfl))).trans h2)) rfl hK
            · obtain rfl := Option.some.inj ho
              refine ⟨rfl, fun a w' hS hold hin K hK => ?_⟩
              obtain ⟨y2, x2, rfl⟩ := hin 2 rfl (by omega)
              refine if_always rfl ?_
              exact op_bin (V := (· = .int .u64 ((m % 40 : Nat) : Int))) _ _ _ _ _ _ _ (.int .u64 ((m % 40 : Nat) : Int)) rfl rfl (eval_tmp x2) rfl (fun w => rem_40 m w) rfl hK
            · obtain rfl := Option.some.inj ho
              refine ⟨rfl, fun a w' hS hold hin K hK => ?_⟩
              obtain ⟨y3, x3, rfl⟩ := hin 3 rfl (by omega)
              refine if_always rfl ?_
              exact op_conv _ _ ((m % 40 : Nat) : Int) rfl rfl (eval_tmp x3) (wrap_u32_of m (m % 40) (by omega) rfl) hK
            · obtain rfl := Option.some.inj ho
              refine ⟨rfl, fun a w' hS hold hin K hK => ?_⟩
              obtain ⟨y1, x1, (v1 : IsEl na y1)⟩ := hin 1 rfl (by omega)
              obtain ⟨y4, x4, rfl⟩ := hin 4 rfl (by omega)
              refine if_always rfl ?_
              exact op_fn2 _ _ _ _ _ _ rfl rfl (eval_tmp x1) (eval_tmp x4) (by intro args w; kernel_rfl) (times_ev (by omega) rfl v1 _) hK
            · obtain rfl := Option.some.inj ho
              refine ⟨rfl, fun a w' hS hold hin K hK => ?_⟩
              obtain ⟨y0, x0, (v0 : IsEl (Fin.ofNat P (m % 40) * na) y0)⟩ := hin 0 rfl (by omega)
              obtain ⟨y5, x5, (v5 : IsEl (na * Fin.ofNat P (m % 40)) y5)⟩ := hin 5 rfl (by omega)
              refine if_always rfl ?_
              exact op_fn2 _ _ _ _ _ _ rfl rfl (eval_tmp x0) (eval_tmp x5) (by intro args w; kernel_rfl) (one_el v0 v5 (by grind) _) hK
            · obtain rfl := Option.some.inj ho
              refine ⟨rfl, fun a w' hS hold hin K hK => ?_⟩
              obtain ⟨y6, x6, rfl⟩ := hin 6 rfl (by omega)
              refine if_always rfl ?_
              exact op_move (V := (· = .bool true)) _ _ rfl rfl (eval_tmp x6) rfl hK
            · obtain rfl := Option.some.inj ho
              refine ⟨rfl, fun a w' hS hold hin K hK => ?_⟩
              obtain ⟨y7, x7, rfl⟩ := hin 7 rfl (by omega)
              refine if_guard (d := 115) rfl rfl x7 ?_
              exact op_ld_el (.tmp 7) rfl rfl _ (eval_tmp ((hold 7 (slots_not (by kernel_rfl))).trans h7)) hS.1 hK
            · obtain rfl := Option.some.inj ho
              refine ⟨rfl, fun a w' hS hold hin K hK => ?_⟩
              obtain ⟨y7, x7, rfl⟩ := hin 7 rfl (by omega)
              refine if_guard (d := 115) rfl rfl x7 ?_
              exact op_move (V := (· = .int .u64 (m : Nat))) _ _ rfl rfl (eval_tmp ((hold 2 (slots_not (by kernel_rfl))).trans h2)) rfl hK
            · obtain rfl := Option.some.inj ho
              refine ⟨rfl, fun a w' hS hold hin K hK => ?_⟩
              obtain ⟨y7, x7, rfl⟩ := hin 7 rfl (by omega)
              obtain ⟨y9, x9, rfl⟩ := hin 9 rfl (by omega)
              refine if_guard (d := 115) rfl rfl x7 ?_
              exact op_conv _ _ ((m % 4294967296 : Nat) : Int) rfl rfl (eval_tmp x9) (wrap_u32_mod m) hK
            · obtain rfl := Option.some.inj ho
              refine ⟨rfl, fun a w' hS hold hin K hK => ?_⟩
              obtain ⟨y7, x7, rfl⟩ := hin 7 rfl (by omega)
              obtain ⟨y8, x8, (v8 : IsEl na y8)⟩ := hin 8 rfl (by omega)
              obtain ⟨y10, x10, rfl⟩ := hin 10 rfl (by omega)
              refine if_guard (d := 115) rfl rfl x7 ?_
              exact op_fn2 _ _ _ _ _ _ rfl rfl (eval_tmp x8) (eval_tmp x10) (by intro args w; kernel_rfl) (times_ev (by omega) rfl v8 _) hK
            · obtain rfl := Option.some.inj ho
              refine ⟨rfl, fun a w' hS hold hin K hK => ?_⟩
              obtain ⟨y7, x7, rfl⟩ := hin 7 rfl (by omega)
              refine if_guard (d := 115) rfl rfl x7 ?_
              exact op_ld_el (.tmp 7) rfl rfl _ (eval_tmp ((hold 7 (slots_not (by kernel_rfl))).trans h7)) hS.1 hK
            · obtain rfl := Option.some.inj ho
              refine ⟨rfl, fun a w' hS hold hin K hK => ?_⟩
              obtain ⟨y7, x7, rfl⟩ := hin 7 rfl (by omega)
              refine if_guard (d := 115) rfl rfl x7 ?_
              exact op_move (V := (· = .int .u64 (m : Nat))) _ _ rfl rfl (eval_tmp ((hold 2 (slots_not (by kernel_rfl))).trans h2)) rfl hK
            · obtain rfl := Option.some.inj ho
              refine ⟨rfl, fun a w' hS hold hin K hK => ?_⟩
              obtain ⟨y7, x7, rfl⟩ := hin 7 rfl (by omega)
              obtain ⟨y13, x13, rfl⟩ := hin 13 rfl (by omega)
              refine if_guard (d := 115) rfl rfl x7 ?_
              exact op_bin (V := (· = .int .u64 ((m % 4294967296 : Nat) : Int))) _ _ _ _ _ _ _ (.int .u64 ((m % 4294967296 : Nat) : Int)) rfl rfl (eval_tmp x13) rfl (fun w => rem_4294967296 m w) rfl hK
            · obtain rfl := Option.some.inj ho
              refine ⟨rfl, fun a w' hS hold hin K hK => ?_⟩
              obtain ⟨y7, x7, rfl⟩ := hin 7 rfl (by omega)
              obtain ⟨y14, x14, rfl⟩ := hin 14 rfl (by omega)
              refine if_guard (d := 115) rfl rfl x7 ?_
              exact op_fn1 _ _ _ _ rfl rfl (eval_tmp x14) (by intro args w; kernel_rfl) (small_ev (m % 4294967296) (by omega) _) hK
            · obtain rfl := Option.some.inj ho
              refine ⟨rfl, fun a w' hS hold hin K hK => ?_⟩
              obtain ⟨y7, x7, rfl⟩ := hin 7 rfl (by omega)
              obtain ⟨y12, x12, (v12 : IsEl na y12)⟩ := hin 12 rfl (by omega)
              obtain ⟨y15, x15, (v15 : IsEl (Fin.ofNat P (m % 4294967296)) y15)⟩ := hin 15 rfl (by omega)
              refine if_guard (d := 115) rfl rfl x7 ?_
              exact op_fn2 _ _ _ _ _ _ rfl rfl (eval_tmp x12) (eval_tmp x15) (by intro args w; kernel_rfl) (mul_el v12 v15 _) hK
            · obtain rfl := Option.some.inj ho
              refine ⟨rfl, fun a w' hS hold hin K hK => ?_⟩
              obtain ⟨y7, x7, rfl⟩ := hin 7 rfl (by omega)
              obtain ⟨y11, x11, (v11 : IsEl (na * Fin.ofNat P (m % 4294967296)) y11)⟩ := hin 11 rfl (by omega)
              obtain ⟨y16, x16, (v16 : IsEl (na * (Fin.ofNat P (m % 4294967296))) y16)⟩ := hin 16 rfl (by omega)
              refine if_guard (d := 115) rfl rfl x7 ?_
              exact op_fn2 _ _ _ _ _ _ rfl rfl (eval_tmp x11) (eval_tmp x16) (by intro args w; kernel_rfl) (one_el v11 v16 rfl _) hK
            · obtain rfl := Option.some.inj ho
              refine ⟨rfl, fun a w' hS hold hin K hK => ?_⟩
              obtain ⟨y7, x7, rfl⟩ := hin 7 rfl (by omega)
              obtain ⟨y17, x17, rfl⟩ := hin 17 rfl (by omega)
              refine if_always rfl ?_
              exact op_pick (V := (· = .bool true)) _ _ _ true _ rfl rfl (eval_tmp x7) (show (Act.eval a _) = _ from (eval_tmp x17)) rfl hK
            · obtain rfl := Option.some.inj ho
              refine ⟨rfl, fun a w' hS hold hin K hK => ?_⟩
              obtain ⟨y18, x18, rfl⟩ := hin 18 rfl (by omega)
              refine if_always rfl ?_
              exact op_assign (V := (· = .bool true)) _ _ rfl rfl (eval_tmp x18) rfl hK
          clear hS
          intro t1 W5 hs hold hout hS
          replace HS := hs.trans HS
          obtain ⟨_, q6, rfl⟩ : ∃ x, t1[6]? = some x ∧ x = (.bool true : Value) := hout 19 (by omega)
          obtain ⟨f, e0, hf⟩ := wash HS
          have f6 := hf 6 _ q6
          have f7 := hf 7 _ ((hold 7 (slots_not (by kernel_rfl))).trans h7)
          have f14 := hf 14 _ ((hold 14 (slots_not (by kernel_rfl))).trans h14)
          have f2 := hf 2 _ ((hold 2 (slots_not (by kernel_rfl))).trans h2)
          clear hf
          rw [e0.trans (show _ = #[f 0, f 1, f 2, f 3, f 4, f 5, f 6, f 7, f 8, f 9, f 10, f 11, f 12, f 13, f 14, f 15, f 16, f 17, f 18, f 19, f 20, f 21, f 22, f 23, f 24, f 25, f 26, f 27, f 28, f 29, f 30, f 31, f 32, f 33, f 34, f 35, f 36, f 37, f 38, f 39, f 40, f 41, f 42, f 43, f 44, f 45, f 46, f 47, f 48, f 49, f 50, f 51, f 52, f 53, f 54, f 55, f 56, f 57, f 58, f 59, f 60, f 61, f 62, f 63, f 64, f 65, f 66, f 67, f 68, f 69, f 70, f 71, f 72, f 73, f 74, f 75, f 76, f 77, f 78, f 79, f 80, f 81, f 82, f 83, f 84, f 85, f 86, f 87, f 88, f 89, f 90, f 91, f 92, f 93, f 94, f 95, f 96, f 97, f 98, f 99, f 100, f 101, f 102, f 103, f 104, f 105, f 106, f 107, f 108, f 109, f 110, f 111, f 112, f 113, f 114, f 115, f 116, f 117, f 118, f 119, f 120, f 121, f 122, f 123, f 124, f 125, f 126] from by kernel_rfl), f6, f7, f14, f2]
          clear f6 f7 f14 f2
          clear e0
          dsimp only
          clear h7 h14 h2 q6 hold hout hs HS t1 t0
          have hS' := hS
          clear hS
          have hS : ElAt na gx W5 ∧ ElAt (Fin.ofNat P (m % 40) * na) gs W5 ∧ Below w.heap.size w W5 := ⟨hS'.1, hS'.2.1, hS'.2.2.1⟩
          clear hS' lt0 lt1
          clear hM
          clear M
          go_wp2_with fail
          go_returns
          exact ⟨rfl, hS.2.2⟩
end Go.Proofs.Ytciakfhjjnmeeaa
