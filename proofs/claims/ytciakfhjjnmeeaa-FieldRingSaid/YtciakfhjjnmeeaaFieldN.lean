/- The walk of FieldRing: it returns true for all bytes. -/
import Derived.Test.YtciakfhjjnmeeaaOpsF
namespace Go.Proofs.Ytciakfhjjnmeeaa
open Go.RowKit Nt

set_option maxHeartbeats 1000000 in
set_option maxRecDepth 100000 in
theorem fieldRing_walk (La Lb Lc : List Int) (w : World) (hla : La.length = 32) (hba : Byt La) (hlb : Lb.length = 32) (hbb : Byt Lb) (hlc : Lc.length = 32) (hbc : Byt Lc) :
    Calls Try.prog 5 #[.agg (vals La), .agg (vals Lb), .agg (vals Lc)] w fun e w' => e = .returned (.bool true) ∧ Below w.heap.size w w' := by
  have HLA := Lib.hid hla
  have HLB := Lib.hid hlb
  have HLC := Lib.hid hlc
  clear hla hlb hlc
  have R0 := new3_0 w (.cells (vals La) 22) (.cells (vals Lb) 22) (.cells (vals Lc) 22)
  have R1 := new3_1 w (.cells (vals La) 22) (.cells (vals Lb) 22) (.cells (vals Lc) 22)
  have R2 : (((w.alloc (.cells (vals La) 22)).alloc (.cells (vals Lb) 22)).alloc (.cells (vals Lc) 22)).heap[w.heap.size + 1 + 1]? = _ := new3_2 w (.cells (vals La) 22) (.cells (vals Lb) 22) (.cells (vals Lc) 22)
  have B0 : Below w.heap.size w (((w.alloc (.cells (vals La) 22)).alloc (.cells (vals Lb) 22)).alloc (.cells (vals Lc) 22)) := by go_grown
  go_enter Try.func5, Try.ntmps5
  go_wp2_with fail
  generalize ((w.alloc (.cells (vals La) 22)).alloc (.cells (vals Lb) 22)).alloc (.cells (vals Lc) 22) = W at *
  refine (awake_any _).mono ?_
  rintro e w1 ⟨rfl, b1⟩
  replace R0 := row_call b1 R0
  replace R1 := row_call b1 R1
  replace R2 := row_call b1 R2
  have B1 := below_call b1 B0
  clear b1 B0 W
  go_wp2_with fail
  refine wp_region_head 9 (fun i => [16, 17, 18, 19, 20, 21, 7, 8, 9].getD i 0) (fun i => if i < 6 then none else some 5)
    (fun i x => match i with | 0 => x = .agg (vals La) | 1 => ∃ z0 z1 z2 z3 z4, x = ev z0 z1 z2 z3 z4 ∧ El z0 z1 z2 z3 z4 (numF La) | 2 => x = .agg (vals Lb) | 3 => ∃ z0 z1 z2 z3 z4, x = ev z0 z1 z2 z3 z4 ∧ El z0 z1 z2 z3 z4 (numF Lb) | 4 => x = .agg (vals Lc) | 5 => ∃ z0 z1 z2 z3 z4, x = ev z0 z1 z2 z3 z4 ∧ El z0 z1 z2 z3 z4 (numF Lc) | _ => True)
    (fun w' => w'.heap[w.heap.size]? = some (.cells (vals La) 22 (0, 0)) ∧ w'.heap[w.heap.size + 1]? = some (.cells (vals Lb) 22 (0, 0)) ∧ w'.heap[w.heap.size + 1 + 1]? = some (.cells (vals Lc) 22 (0, 0)) ∧ Below w.heap.size w w') w.heap.size (by kernel_rfl) (by kernel_rfl) (slots_apart (by kernel_rfl)) (slots_lie (by kernel_rfl)) ⟨R0, R1, R2, B1.drew⟩ (fun w' h => h.2.2.2.size) (fun w' cs t h => ⟨row_alloc h.1, row_alloc h.2.1, row_alloc h.2.2.1, h.2.2.2.alloc h.2.2.2.size _⟩) ?_ ?_ ?_
  · intro i o hi ho hA
    have hc : i = 0 ∨ i = 1 ∨ i = 2 ∨ i = 3 ∨ i = 4 ∨ i = 5 ∨ i = 6 ∨ i = 7 ∨ i = 8 := by omega
    rcases hc with rfl | rfl | rfl | rfl | rfl | rfl | rfl | rfl | rfl
    · obtain rfl := Option.some.inj ho
      refine ⟨rfl, rfl, fun a w' hS hold _ K hK => ?_⟩
      exact wp_load_row 22 (.tmp 3) rfl _ (eval_tmp (hold 3 (slots_not (by kernel_rfl)))) _ _ (0, 0) _ hS.1 Try.underlying22 rfl (by rw [vals_size, HLA.out]; kernel_rfl) (hK _ _ rfl hS (Below.refl _ _))
    · obtain rfl := Option.some.inj ho
      refine ⟨rfl, rfl, fun a w' hS _ hin K hK => ?_⟩
      obtain ⟨x, hx, rfl⟩ := hin 0 ⟨_, List.mem_toArray.2 (List.mem_cons_self ..), rfl, rfl⟩ (by omega) rfl
      refine wp_fn1 _ _ _ _ rfl (eval_tmp hx) (by intro args w; kernel_rfl) ?_
      refine (of_any La w' HLA.out hba).mono ?_
      rintro e w2 ⟨z0, z1, z2, z3, z4, rfl, hz, hbz⟩
      exact ⟨_, rfl, hK _ _ ⟨z0, z1, z2, z3, z4, rfl, hz⟩ ⟨row_call hbz hS.1, row_call hbz hS.2.1, row_call hbz hS.2.2.1, below_call hbz hS.2.2.2⟩ hbz⟩
    · obtain rfl := Option.some.inj ho
      refine ⟨rfl, rfl, fun a w' hS hold _ K hK => ?_⟩
      exact wp_load_row 22 (.tmp 4) rfl _ (eval_tmp (hold 4 (slots_not (by kernel_rfl)))) _ _ (0, 0) _ hS.2.1 Try.underlying22 rfl (by rw [vals_size, HLB.out]; kernel_rfl) (hK _ _ rfl hS (Below.refl _ _))
    · obtain rfl := Option.some.inj ho
      refine ⟨rfl, rfl, fun a w' hS _ hin K hK => ?_⟩
      obtain ⟨x, hx, rfl⟩ := hin 2 ⟨_, List.mem_toArray.2 (List.mem_cons_self ..), rfl, rfl⟩ (by omega) rfl
      refine wp_fn1 _ _ _ _ rfl (eval_tmp hx) (by intro args w; kernel_rfl) ?_
      refine (of_any Lb w' HLB.out hbb).mono ?_
      rintro e w2 ⟨z0, z1, z2, z3, z4, rfl, hz, hbz⟩
      exact ⟨_, rfl, hK _ _ ⟨z0, z1, z2, z3, z4, rfl, hz⟩ ⟨row_call hbz hS.1, row_call hbz hS.2.1, row_call hbz hS.2.2.1, below_call hbz hS.2.2.2⟩ hbz⟩
    · obtain rfl := Option.some.inj ho
      refine ⟨rfl, rfl, fun a w' hS hold _ K hK => ?_⟩
      exact wp_load_row 22 (.tmp 5) rfl _ (eval_tmp (hold 5 (slots_not (by kernel_rfl)))) _ _ (0, 0) _ hS.2.2.1 Try.underlying22 rfl (by rw [vals_size, HLC.out]; kernel_rfl) (hK _ _ rfl hS (Below.refl _ _))
    · obtain rfl := Option.some.inj ho
      refine ⟨rfl, rfl, fun a w' hS _ hin K hK => ?_⟩
      obtain ⟨x, hx, rfl⟩ := hin 4 ⟨_, List.mem_toArray.2 (List.mem_cons_self ..), rfl, rfl⟩ (by omega) rfl
      refine wp_fn1 _ _ _ _ rfl (eval_tmp hx) (by intro args w; kernel_rfl) ?_
      refine (of_any Lc w' HLC.out hbc).mono ?_
      rintro e w2 ⟨z0, z1, z2, z3, z4, rfl, hz, hbz⟩
      exact ⟨_, rfl, hK _ _ ⟨z0, z1, z2, z3, z4, rfl, hz⟩ ⟨row_call hbz hS.1, row_call hbz hS.2.1, row_call hbz hS.2.2.1, below_call hbz hS.2.2.2⟩ hbz⟩
    all_goals exact absurd hA (by simp)
  · intro i o sz hi ho hA
    have hc : i = 0 ∨ i = 1 ∨ i = 2 ∨ i = 3 ∨ i = 4 ∨ i = 5 ∨ i = 6 ∨ i = 7 ∨ i = 8 := by omega
    rcases hc with rfl | rfl | rfl | rfl | rfl | rfl | rfl | rfl | rfl
    iterate 6 exact absurd hA (by simp)
    all_goals
      obtain rfl := Option.some.inj ho
      obtain rfl := Option.some.inj hA
      exact ⟨rfl, rfl, 26, #[.int .u64 0, .int .u64 0, .int .u64 0, .int .u64 0, .int .u64 0], rfl, fun a w' K h => wp_new 26 #[.int .u64 0, .int .u64 0, .int .u64 0, .int .u64 0, .int .u64 0] (fun w => by kernel_rfl) h⟩
  · intro v w2 hS hV hA hne
    have e0 : v 0 = _ := hV 0 (by omega) rfl
    obtain ⟨a0, a1, a2, a3, a4, e1, HA⟩ := hV 1 (by omega) rfl
    have e2 : v 2 = _ := hV 2 (by omega) rfl
    obtain ⟨b0, b1, b2, b3, b4, e3, HB⟩ := hV 3 (by omega) rfl
    have e4 : v 4 = _ := hV 4 (by omega) rfl
    obtain ⟨c0, c1, c2, c3, c4, e5, HC⟩ := hV 5 (by omega) rfl
    obtain ⟨gx, tx, cx, e6, bx, rx, sx⟩ := hA 6 (by omega) 5 rfl
    obtain ⟨gy, ty, cy, e7, by', ry, sy⟩ := hA 7 (by omega) 5 rfl
    obtain ⟨gz, tz, cz, e8, bz, rz, sz⟩ := hA 8 (by omega) 5 rfl
    have nxy : gy ≠ gx := fun h => hne 6 7 (by omega) (by omega) (by omega) rfl rfl (by rw [e6, e7, h])
    have nxz : gz ≠ gx := fun h => hne 6 8 (by omega) (by omega) (by omega) rfl rfl (by rw [e6, e8, h])
    have nyz : gz ≠ gy := fun h => hne 7 8 (by omega) (by omega) (by omega) rfl rfl (by rw [e7, e8, h])
    have B2 := hS.2.2.2
    clear hV hA hne hS R0 R1 R2 B1
    simp only [fillA, e0, e1, e2, e3, e4, e5, e6, e7, e8, if_true, List.drop_succ_cons, List.drop_zero, List.getD_cons_zero, List.getD_cons_succ, List.setIfInBounds_toArray, List.set_cons_zero, List.set_cons_succ]
    clear e0 e1 e2 e3 e4 e5 e6 e7 e8 v
    generalize numF La = na at HA
    generalize numF Lb = nb at HB
    generalize numF Lc = nc at HC
    clear HLA HLB HLC hba hbb hbc
    have ry1 := row_put_other (cs := #[.int .u64 a0, .int .u64 a1, .int .u64 a2, .int .u64 a3, .int .u64 a4]) ry nxy
    have rz1 := row_put_other (cs := #[.int .u64 b0, .int .u64 b1, .int .u64 b2, .int .u64 b3, .int .u64 b4]) (row_put_other (cs := #[.int .u64 a0, .int .u64 a1, .int .u64 a2, .int .u64 a3, .int .u64 a4]) rz nxz) nyz
    have FX := row_alloc (x := .cells #[.int .u64 0, .int .u64 0, .int .u64 0, .int .u64 0, .int .u64 0] 26) (row_put_other (cs := #[.int .u64 c0, .int .u64 c1, .int .u64 c2, .int .u64 c3, .int .u64 c4]) (row_put_other (cs := #[.int .u64 b0, .int .u64 b1, .int .u64 b2, .int .u64 b3, .int .u64 b4]) (row_put (cs' := #[.int .u64 a0, .int .u64 a1, .int .u64 a2, .int .u64 a3, .int .u64 a4]) rx) (Ne.symm nxy)) (Ne.symm nxz))
    have FY := row_alloc (x := .cells #[.int .u64 0, .int .u64 0, .int .u64 0, .int .u64 0, .int .u64 0] 26) (row_put_other (cs := #[.int .u64 c0, .int .u64 c1, .int .u64 c2, .int .u64 c3, .int .u64 c4]) (row_put (cs' := #[.int .u64 b0, .int .u64 b1, .int .u64 b2, .int .u64 b3, .int .u64 b4]) ry1) (Ne.symm nyz))
    have FZ := row_alloc (x := .cells #[.int .u64 0, .int .u64 0, .int .u64 0, .int .u64 0, .int .u64 0] 26) (row_put (cs' := #[.int .u64 c0, .int .u64 c1, .int .u64 c2, .int .u64 c3, .int .u64 c4]) rz1)
    have FN : ((((w2.setRow gx #[.int .u64 a0, .int .u64 a1, .int .u64 a2, .int .u64 a3, .int .u64 a4]).setRow gy #[.int .u64 b0, .int .u64 b1, .int .u64 b2, .int .u64 b3, .int .u64 b4]).setRow gz #[.int .u64 c0, .int .u64 c1, .int .u64 c2, .int .u64 c3, .int .u64 c4]).alloc (.cells #[.int .u64 0, .int .u64 0, .int .u64 0, .int .u64 0, .int .u64 0] 26)).heap[w2.heap.size]? = some (.cells #[.int .u64 0, .int .u64 0, .int .u64 0, .int .u64 0, .int .u64 0] 26) := row_at (by simp [World.setRow])
    have BB := below_setRow (below_setRow (below_setRow B2 bx #[.int .u64 a0, .int .u64 a1, .int .u64 a2, .int .u64 a3, .int .u64 a4]) by' #[.int .u64 b0, .int .u64 b1, .int .u64 b2, .int .u64 b3, .int .u64 b4]) bz #[.int .u64 c0, .int .u64 c1, .int .u64 c2, .int .u64 c3, .int .u64 c4]
    have B3 := BB.alloc BB.size (.cells #[.int .u64 0, .int .u64 0, .int .u64 0, .int .u64 0, .int .u64 0] 26)
    refine st_row rfl 26 (.tmp 7) _ rfl _ _ (by rfl) (by rfl) _ _ rx 5 tElem (by rfl) sx (by simp [Value.oneCell']) ?_
    refine st_row rfl 26 (.tmp 8) _ rfl _ _ (by rfl) (by rfl) _ _ ry1 5 tElem (by rfl) sy (by simp [Value.oneCell']) ?_
    refine st_row rfl 26 (.tmp 9) _ rfl _ _ (by rfl) (by rfl) _ _ rz1 5 tElem (by rfl) sz (by simp [Value.oneCell']) ?_
    clear ry1 rz1 rx ry rz sx sy sz bx by' bz BB B2
    go_wp2_with fail
    generalize (((w2.setRow gx #[.int .u64 a0, .int .u64 a1, .int .u64 a2, .int .u64 a3, .int .u64 a4]).setRow gy #[.int .u64 b0, .int .u64 b1, .int .u64 b2, .int .u64 b3, .int .u64 b4]).setRow gz #[.int .u64 c0, .int .u64 c1, .int .u64 c2, .int .u64 c3, .int .u64 c4]).alloc (.cells #[.int .u64 0, .int .u64 0, .int .u64 0, .int .u64 0, .int .u64 0] 26) = W at *
    generalize w2.heap.size = gn at *
    clear nxy nxz nyz w2 w1 cx cy cz
    have hS : ElAt na gx W ∧ ElAt nb gy W ∧ ElAt nc gz W ∧ ElAt 0 gn W ∧ Below w.heap.size w W := ⟨⟨_, _, FX, rfl, _, _, _, _, _, rfl, HA⟩, ⟨_, _, FY, rfl, _, _, _, _, _, rfl, HB⟩, ⟨_, _, FZ, rfl, _, _, _, _, _, rfl, HC⟩, ⟨_, _, FN, rfl, _, _, _, _, _, rfl, el_zero⟩, B3⟩
    clear FX FY FZ FN B3 HA HB HC
    refine hide_frame fun t0 HT => ?_
    have HS : t0.size = 159 := by rw [HT]; rfl
    have h7 : t0[7]? = some (.pointer (some ⟨gx, 0, none⟩)) := by rw [HT]; rfl
    have h8 : t0[8]? = some (.pointer (some ⟨gy, 0, none⟩)) := by rw [HT]; rfl
    have h9 : t0[9]? = some (.pointer (some ⟨gz, 0, none⟩)) := by rw [HT]; rfl
    have h10 : t0[10]? = some (.pointer (some ⟨gn, 0, none⟩)) := by rw [HT]; rfl
    clear HT
    refine wp_region_all 60 (fun i => [22, 23, 24, 25, 26, 27, 28, 29, 30, 31, 32, 33, 34, 35, 36, 37, 38, 39, 40, 41, 42, 43, 44, 45, 46, 47, 48, 49, 50, 51, 52, 53, 54, 55, 56, 57, 58, 59, 60, 61, 62, 63, 64, 65, 66, 67, 68, 69, 70, 71, 72, 73, 74, 75, 76, 77, 78, 79, 80, 81, 11].getD i 0) (fun i => [IsEl na, IsEl nb, IsEl (na + nb), IsEl nb, IsEl na, IsEl (nb + na), (· = .bool true), (· = .bool true), IsEl na, IsEl nb, IsEl (na + nb), IsEl nc, IsEl ((na + nb) + nc), IsEl na, IsEl nb, IsEl nc, IsEl (nb + nc), IsEl (na + (nb + nc)), (· = .bool true), (· = .bool true), (· = .bool true), IsEl na, IsEl (0 : F), IsEl (na + (0 : F)), IsEl na, (· = .bool true), (· = .bool true), (· = .bool true), IsEl na, IsEl nb, IsEl (na - nb), IsEl nb, IsEl ((na - nb) + nb), IsEl na, (· = .bool true), (· = .bool true), (· = .bool true), IsEl na, IsEl nb, IsEl (na - nb), IsEl na, IsEl nb, IsEl (0 - nb), IsEl (na + (0 - nb)), (· = .bool true), (· = .bool true), (· = .bool true), IsEl na, IsEl na, IsEl (na - na), (· = .int .u64 18446744073709551615), (· = .bool true), (· = .bool true), (· = .bool true), IsEl na, IsEl (0 - na), IsEl (0 - (0 - na)), IsEl na, (· = .bool true), (· = .bool true), (· = .bool true)].getD i (fun _ => True)) (fun w' => ElAt na gx w' ∧ ElAt nb gy w' ∧ ElAt nc gz w' ∧ ElAt 0 gn w' ∧ Below w.heap.size w w')
      (by kernel_rfl) (by kernel_rfl) (by kernel_rfl) (slots_apart (by kernel_rfl)) (slots_lie (by rw [HS]; kernel_rfl)) ⟨hS.1, hS.2.1, hS.2.2.1, hS.2.2.2.1, hS.2.2.2.2.drew⟩ (fun w1 w2 h b => ⟨h.1.keep b, h.2.1.keep b, h.2.2.1.keep b, h.2.2.2.1.keep b, below_call b h.2.2.2.2⟩) ?_ ?_
    · intro i o hi ho
      have hc : i = 0 ∨ i = 1 ∨ i = 2 ∨ i = 3 ∨ i = 4 ∨ i = 5 ∨ i = 6 ∨ i = 7 ∨ i = 8 ∨ i = 9 ∨ i = 10 ∨ i = 11 ∨ i = 12 ∨ i = 13 ∨ i = 14 ∨ i = 15 ∨ i = 16 ∨ i = 17 ∨ i = 18 ∨ i = 19 ∨ i = 20 ∨ i = 21 ∨ i = 22 ∨ i = 23 ∨ i = 24 ∨ i = 25 ∨ i = 26 ∨ i = 27 ∨ i = 28 ∨ i = 29 ∨ i = 30 ∨ i = 31 ∨ i = 32 ∨ i = 33 ∨ i = 34 ∨ i = 35 ∨ i = 36 ∨ i = 37 ∨ i = 38 ∨ i = 39 ∨ i = 40 ∨ i = 41 ∨ i = 42 ∨ i = 43 ∨ i = 44 ∨ i = 45 ∨ i = 46 ∨ i = 47 ∨ i = 48 ∨ i = 49 ∨ i = 50 ∨ i = 51 ∨ i = 52 ∨ i = 53 ∨ i = 54 ∨ i = 55 ∨ i = 56 ∨ i = 57 ∨ i = 58 ∨ i = 59 ∨ i = 60 := by omega
      rcases hc with rfl | rfl | rfl | rfl | rfl | rfl | rfl | rfl | rfl | rfl | rfl | rfl | rfl | rfl | rfl | rfl | rfl | rfl | rfl | rfl | rfl | rfl | rfl | rfl | rfl | rfl | rfl | rfl | rfl | rfl | rfl | rfl | rfl | rfl | rfl | rfl | rfl | rfl | rfl | rfl | rfl | rfl | rfl | rfl | rfl | rfl | rfl | rfl | rfl | rfl | rfl | rfl | rfl | rfl | rfl | rfl | rfl | rfl | rfl | rfl | rfl
      · obtain rfl := Option.some.inj ho
        refine ⟨rfl, fun a w' hS hold hin K hK => ?_⟩
        refine if_always rfl ?_
        exact op_ld_el (.tmp 7) rfl rfl _ (eval_tmp ((hold 7 (slots_not (by kernel_rfl))).trans h7)) hS.1 hK
      · obtain rfl := Option.some.inj ho
        refine ⟨rfl, fun a w' hS hold hin K hK => ?_⟩
        refine if_always rfl ?_
        exact op_ld_el (.tmp 8) rfl rfl _ (eval_tmp ((hold 8 (slots_not (by kernel_rfl))).trans h8)) hS.2.1 hK
      · obtain rfl := Option.some.inj ho
        refine ⟨rfl, fun a w' hS hold hin K hK => ?_⟩
        obtain ⟨y0, x0, (v0 : IsEl na y0)⟩ := hin 0 rfl (by omega)
        obtain ⟨y1, x1, (v1 : IsEl nb y1)⟩ := hin 1 rfl (by omega)
        refine if_always rfl ?_
        exact op_fn2 _ _ _ _ _ _ rfl rfl (eval_tmp x0) (eval_tmp x1) (by intro args w; kernel_rfl) (add_el v0 v1 _) hK
      · obtain rfl := Option.some.inj ho
        refine ⟨rfl, fun a w' hS hold hin K hK => ?_⟩
        refine if_always rfl ?_
        exact op_ld_el (.tmp 8) rfl rfl _ (eval_tmp ((hold 8 (slots_not (by kernel_rfl))).trans h8)) hS.2.1 hK
      · obtain rfl := Option.some.inj ho
        refine ⟨rfl, fun a w' hS hold hin K hK => ?_⟩
        refine if_always rfl ?_
        exact op_ld_el (.tmp 7) rfl rfl _ (eval_tmp ((hold 7 (slots_not (by kernel_rfl))).trans h7)) hS.1 hK
      · obtain rfl := Option.some.inj ho
        refine ⟨rfl, fun a w' hS hold hin K hK => ?_⟩
        obtain ⟨y3, x3, (v3 : IsEl nb y3)⟩ := hin 3 rfl (by omega)
        obtain ⟨y4, x4, (v4 : IsEl na y4)⟩ := hin 4 rfl (by omega)
        refine if_always rfl ?_
        exact op_fn2 _ _ _ _ _ _ rfl rfl (eval_tmp x3) (eval_tmp x4) (by intro args w; kernel_rfl) (add_el v3 v4 _) hK
      · obtain rfl := Option.some.inj ho
        refine ⟨rfl, fun a w' hS hold hin K hK => ?_⟩
        obtain ⟨y2, x2, (v2 : IsEl (na + nb) y2)⟩ := hin 2 rfl (by omega)
        obtain ⟨y5, x5, (v5 : IsEl (nb + na) y5)⟩ := hin 5 rfl (by omega)
        refine if_always rfl ?_
        exact op_fn2 _ _ _ _ _ _ rfl rfl (eval_tmp x2) (eval_tmp x5) (by intro args w; kernel_rfl) (one_el v2 v5 (by grind) _) hK
      · obtain rfl := Option.some.inj ho
        refine ⟨rfl, fun a w' hS hold hin K hK => ?_⟩
        obtain ⟨y6, x6, rfl⟩ := hin 6 rfl (by omega)
        refine if_always rfl ?_
        exact op_move (V := (· = .bool true)) _ _ rfl rfl (eval_tmp x6) rfl hK
      · obtain rfl := Option.some.inj ho
        refine ⟨rfl, fun a w' hS hold hin K hK => ?_⟩
        obtain ⟨y7, x7, rfl⟩ := hin 7 rfl (by omega)
        refine if_guard (d := 29) rfl rfl x7 ?_
        exact op_ld_el (.tmp 7) rfl rfl _ (eval_tmp ((hold 7 (slots_not (by kernel_rfl))).trans h7)) hS.1 hK
      · obtain rfl := Option.some.inj ho
        refine ⟨rfl, fun a w' hS hold hin K hK => ?_⟩
        obtain ⟨y7, x7, rfl⟩ := hin 7 rfl (by omega)
        refine if_guard (d := 29) rfl rfl x7 ?_
        exact op_ld_el (.tmp 8) rfl rfl _ (eval_tmp ((hold 8 (slots_not (by kernel_rfl))).trans h8)) hS.2.1 hK
      · obtain rfl := Option.some.inj ho
        refine ⟨rfl, fun a w' hS hold hin K hK => ?_⟩
        obtain ⟨y7, x7, rfl⟩ := hin 7 rfl (by omega)
        obtain ⟨y8, x8, (v8 : IsEl na y8)⟩ := hin 8 rfl (by omega)
        obtain ⟨y9, x9, (v9 : IsEl nb y9)⟩ := hin 9 rfl (by omega)
        refine if_guard (d := 29) rfl rfl x7 ?_
        exact op_fn2 _ _ _ _ _ _ rfl rfl (eval_tmp x8) (eval_tmp x9) (by intro args w; kernel_rfl) (add_el v8 v9 _) hK
      · obtain rfl := Option.some.inj ho
        refine ⟨rfl, fun a w' hS hold hin K hK => ?_⟩
        obtain ⟨y7, x7, rfl⟩ := hin 7 rfl (by omega)
        refine if_guard (d := 29) rfl rfl x7 ?_
        exact op_ld_el (.tmp 9) rfl rfl _ (eval_tmp ((hold 9 (slots_not (by kernel_rfl))).trans h9)) hS.2.2.1 hK
      · obtain rfl := Option.some.inj ho
        refine ⟨rfl, fun a w' hS hold hin K hK => ?_⟩
        obtain ⟨y7, x7, rfl⟩ := hin 7 rfl (by omega)
        obtain ⟨y10, x10, (v10 : IsEl (na + nb) y10)⟩ := hin 10 rfl (by omega)
        obtain ⟨y11, x11, (v11 : IsEl nc y11)⟩ := hin 11 rfl (by omega)
        refine if_guard (d := 29) rfl rfl x7 ?_
        exact op_fn2 _ _ _ _ _ _ rfl rfl (eval_tmp x10) (eval_tmp x11) (by intro args w; kernel_rfl) (add_el v10 v11 _) hK
      · obtain rfl := Option.some.inj ho
        refine ⟨rfl, fun a w' hS hold hin K hK => ?_⟩
        obtain ⟨y7, x7, rfl⟩ := hin 7 rfl (by omega)
        refine if_guard (d := 29) rfl rfl x7 ?_
        exact op_ld_el (.tmp 7) rfl rfl _ (eval_tmp ((hold 7 (slots_not (by kernel_rfl))).trans h7)) hS.1 hK
      · obtain rfl := Option.some.inj ho
        refine ⟨rfl, fun a w' hS hold hin K hK => ?_⟩
        obtain ⟨y7, x7, rfl⟩ := hin 7 rfl (by omega)
        refine if_guard (d := 29) rfl rfl x7 ?_
        exact op_ld_el (.tmp 8) rfl rfl _ (eval_tmp ((hold 8 (slots_not (by kernel_rfl))).trans h8)) hS.2.1 hK
      · obtain rfl := Option.some.inj ho
        refine ⟨rfl, fun a w' hS hold hin K hK => ?_⟩
        obtain ⟨y7, x7, rfl⟩ := hin 7 rfl (by omega)
        refine if_guard (d := 29) rfl rfl x7 ?_
        exact op_ld_el (.tmp 9) rfl rfl _ (eval_tmp ((hold 9 (slots_not (by kernel_rfl))).trans h9)) hS.2.2.1 hK
      · obtain rfl := Option.some.inj ho
        refine ⟨rfl, fun a w' hS hold hin K hK => ?_⟩
        obtain ⟨y7, x7, rfl⟩ := hin 7 rfl (by omega)
        obtain ⟨y14, x14, (v14 : IsEl nb y14)⟩ := hin 14 rfl (by omega)
        obtain ⟨y15, x15, (v15 : IsEl nc y15)⟩ := hin 15 rfl (by omega)
        refine if_guard (d := 29) rfl rfl x7 ?_
        exact op_fn2 _ _ _ _ _ _ rfl rfl (eval_tmp x14) (eval_tmp x15) (by intro args w; kernel_rfl) (add_el v14 v15 _) hK
      · obtain rfl := Option.some.inj ho
        refine ⟨rfl, fun a w' hS hold hin K hK => ?_⟩
        obtain ⟨y7, x7, rfl⟩ := hin 7 rfl (by omega)
        obtain ⟨y13, x13, (v13 : IsEl na y13)⟩ := hin 13 rfl (by omega)
        obtain ⟨y16, x16, (v16 : IsEl (nb + nc) y16)⟩ := hin 16 rfl (by omega)
        refine if_guard (d := 29) rfl rfl x7 ?_
        exact op_fn2 _ _ _ _ _ _ rfl rfl (eval_tmp x13) (eval_tmp x16) (by intro args w; kernel_rfl) (add_el v13 v16 _) hK
      · obtain rfl := Option.some.inj ho
        refine ⟨rfl, fun a w' hS hold hin K hK => ?_⟩
        obtain ⟨y7, x7, rfl⟩ := hin 7 rfl (by omega)
        obtain ⟨y12, x12, (v12 : IsEl ((na + nb) + nc) y12)⟩ := hin 12 rfl (by omega)
        obtain ⟨y17, x17, (v17 : IsEl (na + (nb + nc)) y17)⟩ := hin 17 rfl (by omega)
        refine if_guard (d := 29) rfl rfl x7 ?_
        exact op_fn2 _ _ _ _ _ _ rfl rfl (eval_tmp x12) (eval_tmp x17) (by intro args w; kernel_rfl) (one_el v12 v17 (by grind) _) hK
      · obtain rfl := Option.some.inj ho
        refine ⟨rfl, fun a w' hS hold hin K hK => ?_⟩
        obtain ⟨y7, x7, rfl⟩ := hin 7 rfl (by omega)
        obtain ⟨y18, x18, rfl⟩ := hin 18 rfl (by omega)
        refine if_always rfl ?_
        exact op_pick (V := (· = .bool true)) _ _ _ true _ rfl rfl (eval_tmp x7) (show (Act.eval a _) = _ from (eval_tmp x18)) rfl hK
      · obtain rfl := Option.some.inj ho
        refine ⟨rfl, fun a w' hS hold hin K hK => ?_⟩
        obtain ⟨y19, x19, rfl⟩ := hin 19 rfl (by omega)
        refine if_always rfl ?_
        exact op_move (V := (· = .bool true)) _ _ rfl rfl (eval_tmp x19) rfl hK
      · obtain rfl := Option.some.inj ho
        refine ⟨rfl, fun a w' hS hold hin K hK => ?_⟩
        obtain ⟨y20, x20, rfl⟩ := hin 20 rfl (by omega)
        refine if_guard (d := 42) rfl rfl x20 ?_
        exact op_ld_el (.tmp 7) rfl rfl _ (eval_tmp ((hold 7 (slots_not (by kernel_rfl))).trans h7)) hS.1 hK
      · obtain rfl := Option.some.inj ho
        refine ⟨rfl, fun a w' hS hold hin K hK => ?_⟩
        obtain ⟨y20, x20, rfl⟩ := hin 20 rfl (by omega)
        refine if_guard (d := 42) rfl rfl x20 ?_
        exact op_ld_el (.tmp 10) rfl rfl _ (eval_tmp ((hold 10 (slots_not (by kernel_rfl))).trans h10)) hS.2.2.2.1 hK
      · obtain rfl := Option.some.inj ho
        refine ⟨rfl, fun a w' hS hold hin K hK => ?_⟩
        obtain ⟨y20, x20, rfl⟩ := hin 20 rfl (by omega)
        obtain ⟨y21, x21, (v21 : IsEl na y21)⟩ := hin 21 rfl (by omega)
        obtain ⟨y22, x22, (v22 : IsEl (0 : F) y22)⟩ := hin 22 rfl (by omega)
        refine if_guard (d := 42) rfl rfl x20 ?_
        exact op_fn2 _ _ _ _ _ _ rfl rfl (eval_tmp x21) (eval_tmp x22) (by intro args w; kernel_rfl) (add_el v21 v22 _) hK
      · obtain rfl := Option.some.inj ho
        refine ⟨rfl, fun a w' hS hold hin K hK => ?_⟩
        obtain ⟨y20, x20, rfl⟩ := hin 20 rfl (by omega)
        refine if_guard (d := 42) rfl rfl x20 ?_
        exact op_ld_el (.tmp 7) rfl rfl _ (eval_tmp ((hold 7 (slots_not (by kernel_rfl))).trans h7)) hS.1 hK
      · obtain rfl := Option.some.inj ho
        refine ⟨rfl, fun a w' hS hold hin K hK => ?_⟩
        obtain ⟨y20, x20, rfl⟩ := hin 20 rfl (by omega)
        obtain ⟨y23, x23, (v23 : IsEl (na + (0 : F)) y23)⟩ := hin 23 rfl (by omega)
        obtain ⟨y24, x24, (v24 : IsEl na y24)⟩ := hin 24 rfl (by omega)
        refine if_guard (d := 42) rfl rfl x20 ?_
        exact op_fn2 _ _ _ _ _ _ rfl rfl (eval_tmp x23) (eval_tmp x24) (by intro args w; kernel_rfl) (one_el v23 v24 (by grind) _) hK
      · obtain rfl := Option.some.inj ho
        refine ⟨rfl, fun a w' hS hold hin K hK => ?_⟩
        obtain ⟨y20, x20, rfl⟩ := hin 20 rfl (by omega)
        obtain ⟨y25, x25, rfl⟩ := hin 25 rfl (by omega)
        refine if_always rfl ?_
        exact op_pick (V := (· = .bool true)) _ _ _ true _ rfl rfl (eval_tmp x20) (show (Act.eval a _) = _ from (eval_tmp x25)) rfl hK
      · obtain rfl := Option.some.inj ho
        refine ⟨rfl, fun a w' hS hold hin K hK => ?_⟩
        obtain ⟨y26, x26, rfl⟩ := hin 26 rfl (by omega)
        refine if_always rfl ?_
        exact op_move (V := (· = .bool true)) _ _ rfl rfl (eval_tmp x26) rfl hK
      · obtain rfl := Option.some.inj ho
        refine ⟨rfl, fun a w' hS hold hin K hK => ?_⟩
        obtain ⟨y27, x27, rfl⟩ := hin 27 rfl (by omega)
        refine if_guard (d := 49) rfl rfl x27 ?_
        exact op_ld_el (.tmp 7) rfl rfl _ (eval_tmp ((hold 7 (slots_not (by kernel_rfl))).trans h7)) hS.1 hK
      · obtain rfl := Option.some.inj ho
        refine ⟨rfl, fun a w' hS hold hin K hK => ?_⟩
        obtain ⟨y27, x27, rfl⟩ := hin 27 rfl (by omega)
        refine if_guard (d := 49) rfl rfl x27 ?_
        exact op_ld_el (.tmp 8) rfl rfl _ (eval_tmp ((hold 8 (slots_not (by kernel_rfl))).trans h8)) hS.2.1 hK
      · obtain rfl := Option.some.inj ho
        refine ⟨rfl, fun a w' hS hold hin K hK => ?_⟩
        obtain ⟨y27, x27, rfl⟩ := hin 27 rfl (by omega)
        obtain ⟨y28, x28, (v28 : IsEl na y28)⟩ := hin 28 rfl (by omega)
        obtain ⟨y29, x29, (v29 : IsEl nb y29)⟩ := hin 29 rfl (by omega)
        refine if_guard (d := 49) rfl rfl x27 ?_
        exact op_fn2 _ _ _ _ _ _ rfl rfl (eval_tmp x28) (eval_tmp x29) (by intro args w; kernel_rfl) (sub_el v28 v29 _) hK
      · obtain rfl := Option.some.inj ho
        refine ⟨rfl, fun a w' hS hold hin K hK => ?_⟩
        obtain ⟨y27, x27, rfl⟩ := hin 27 rfl (by omega)
        refine if_guard (d := 49) rfl rfl x27 ?_
        exact op_ld_el (.tmp 8) rfl rfl _ (eval_tmp ((hold 8 (slots_not (by kernel_rfl))).trans h8)) hS.2.1 hK
      · obtain rfl := Option.some.inj ho
        refine ⟨rfl, fun a w' hS hold hin K hK => ?_⟩
        obtain ⟨y27, x27, rfl⟩ := hin 27 rfl (by omega)
        obtain ⟨y30, x30, (v30 : IsEl (na - nb) y30)⟩ := hin 30 rfl (by omega)
        obtain ⟨y31, x31, (v31 : IsEl nb y31)⟩ := hin 31 rfl (by omega)
        refine if_guard (d := 49) rfl rfl x27 ?_
        exact op_fn2 _ _ _ _ _ _ rfl rfl (eval_tmp x30) (eval_tmp x31) (by intro args w; kernel_rfl) (add_el v30 v31 _) hK
      · obtain rfl := Option.some.inj ho
        refine ⟨rfl, fun a w' hS hold hin K hK => ?_⟩
        obtain ⟨y27, x27, rfl⟩ := hin 27 rfl (by omega)
        refine if_guard (d := 49) rfl rfl x27 ?_
        exact op_ld_el (.tmp 7) rfl rfl _ (eval_tmp ((hold 7 (slots_not (by kernel_rfl))).trans h7)) hS.1 hK
      · obtain rfl := Option.some.inj ho
        refine ⟨rfl, fun a w' hS hold hin K hK => ?_⟩
        obtain ⟨y27, x27, rfl⟩ := hin 27 rfl (by omega)
        obtain ⟨y32, x32, (v32 : IsEl ((na - nb) + nb) y32)⟩ := hin 32 rfl (by omega)
        obtain ⟨y33, x33, (v33 : IsEl na y33)⟩ := hin 33 rfl (by omega)
        refine if_guard (d := 49) rfl rfl x27 ?_
        exact op_fn2 _ _ _ _ _ _ rfl rfl (eval_tmp x32) (eval_tmp x33) (by intro args w; kernel_rfl) (one_el v32 v33 (by grind) _) hK
      · obtain rfl := Option.some.inj ho
        refine ⟨rfl, fun a w' hS hold hin K hK => ?_⟩
        obtain ⟨y27, x27, rfl⟩ := hin 27 rfl (by omega)
        obtain ⟨y34, x34, rfl⟩ := hin 34 rfl (by omega)
        refine if_always rfl ?_
        exact op_pick (V := (· = .bool true)) _ _ _ true _ rfl rfl (eval_tmp x27) (show (Act.eval a _) = _ from (eval_tmp x34)) rfl hK
      · obtain rfl := Option.some.inj ho
        refine ⟨rfl, fun a w' hS hold hin K hK => ?_⟩
        obtain ⟨y35, x35, rfl⟩ := hin 35 rfl (by omega)
        refine if_always rfl ?_
        exact op_move (V := (· = .bool true)) _ _ rfl rfl (eval_tmp x35) rfl hK
      · obtain rfl := Option.some.inj ho
        refine ⟨rfl, fun a w' hS hold hin K hK => ?_⟩
        obtain ⟨y36, x36, rfl⟩ := hin 36 rfl (by omega)
        refine if_guard (d := 58) rfl rfl x36 ?_
        exact op_ld_el (.tmp 7) rfl rfl _ (eval_tmp ((hold 7 (slots_not (by kernel_rfl))).trans h7)) hS.1 hK
      · obtain rfl := Option.some.inj ho
        refine ⟨rfl, fun a w' hS hold hin K hK => ?_⟩
        obtain ⟨y36, x36, rfl⟩ := hin 36 rfl (by omega)
        refine if_guard (d := 58) rfl rfl x36 ?_
        exact op_ld_el (.tmp 8) rfl rfl _ (eval_tmp ((hold 8 (slots_not (by kernel_rfl))).trans h8)) hS.2.1 hK
      · obtain rfl := Option.some.inj ho
        refine ⟨rfl, fun a w' hS hold hin K hK => ?_⟩
        obtain ⟨y36, x36, rfl⟩ := hin 36 rfl (by omega)
        obtain ⟨y37, x37, (v37 : IsEl na y37)⟩ := hin 37 rfl (by omega)
        obtain ⟨y38, x38, (v38 : IsEl nb y38)⟩ := hin 38 rfl (by omega)
        refine if_guard (d := 58) rfl rfl x36 ?_
        exact op_fn2 _ _ _ _ _ _ rfl rfl (eval_tmp x37) (eval_tmp x38) (by intro args w; kernel_rfl) (sub_el v37 v38 _) hK
      · obtain rfl := Option.some.inj ho
        refine ⟨rfl, fun a w' hS hold hin K hK => ?_⟩
        obtain ⟨y36, x36, rfl⟩ := hin 36 rfl (by omega)
        refine if_guard (d := 58) rfl rfl x36 ?_
        exact op_ld_el (.tmp 7) rfl rfl _ (eval_tmp ((hold 7 (slots_not (by kernel_rfl))).trans h7)) hS.1 hK
      · obtain rfl := Option.some.inj ho
        refine ⟨rfl, fun a w' hS hold hin K hK => ?_⟩
        obtain ⟨y36, x36, rfl⟩ := hin 36 rfl (by omega)
        refine if_guard (d := 58) rfl rfl x36 ?_
        exact op_ld_el (.tmp 8) rfl rfl _ (eval_tmp ((hold 8 (slots_not (by kernel_rfl))).trans h8)) hS.2.1 hK
      · obtain rfl := Option.some.inj ho
        refine ⟨rfl, fun a w' hS hold hin K hK => ?_⟩
        obtain ⟨y36, x36, rfl⟩ := hin 36 rfl (by omega)
        obtain ⟨y41, x41, (v41 : IsEl nb y41)⟩ := hin 41 rfl (by omega)
        refine if_guard (d := 58) rfl rfl x36 ?_
        exact op_fn1 _ _ _ _ rfl rfl (eval_tmp x41) (by intro args w; kernel_rfl) (neg_el v41 _) hK
      · obtain rfl := Option.some.inj ho
        refine ⟨rfl, fun a w' hS hold hin K hK => ?_⟩
        obtain ⟨y36, x36, rfl⟩ := hin 36 rfl (by omega)
        obtain ⟨y40, x40, (v40 : IsEl na y40)⟩ := hin 40 rfl (by omega)
        obtain ⟨y42, x42, (v42 : IsEl (0 - nb) y42)⟩ := hin 42 rfl (by omega)
        refine if_guard (d := 58) rfl rfl x36 ?_
        exact op_fn2 _ _ _ _ _ _ rfl rfl (eval_tmp x40) (eval_tmp x42) (by intro args w; kernel_rfl) (add_el v40 v42 _) hK
      · obtain rfl := Option.some.inj ho
        refine ⟨rfl, fun a w' hS hold hin K hK => ?_⟩
        obtain ⟨y36, x36, rfl⟩ := hin 36 rfl (by omega)
        obtain ⟨y39, x39, (v39 : IsEl (na - nb) y39)⟩ := hin 39 rfl (by omega)
        obtain ⟨y43, x43, (v43 : IsEl (na + (0 - nb)) y43)⟩ := hin 43 rfl (by omega)
        refine if_guard (d := 58) rfl rfl x36 ?_
        exact op_fn2 _ _ _ _ _ _ rfl rfl (eval_tmp x39) (eval_tmp x43) (by intro args w; kernel_rfl) (one_el v39 v43 (by grind) _) hK
      · obtain rfl := Option.some.inj ho
        refine ⟨rfl, fun a w' hS hold hin K hK => ?_⟩
        obtain ⟨y36, x36, rfl⟩ := hin 36 rfl (by omega)
        obtain ⟨y44, x44, rfl⟩ := hin 44 rfl (by omega)
        refine if_always rfl ?_
        exact op_pick (V := (· = .bool true)) _ _ _ true _ rfl rfl (eval_tmp x36) (show (Act.eval a _) = _ from (eval_tmp x44)) rfl hK
      · obtain rfl := Option.some.inj ho
        refine ⟨rfl, fun a w' hS hold hin K hK => ?_⟩
        obtain ⟨y45, x45, rfl⟩ := hin 45 rfl (by omega)
        refine if_always rfl ?_
        exact op_move (V := (· = .bool true)) _ _ rfl rfl (eval_tmp x45) rfl hK
      · obtain rfl := Option.some.inj ho
        refine ⟨rfl, fun a w' hS hold hin K hK => ?_⟩
        obtain ⟨y46, x46, rfl⟩ := hin 46 rfl (by omega)
        refine if_guard (d := 68) rfl rfl x46 ?_
        exact op_ld_el (.tmp 7) rfl rfl _ (eval_tmp ((hold 7 (slots_not (by kernel_rfl))).trans h7)) hS.1 hK
      · obtain rfl := Option.some.inj ho
        refine ⟨rfl, fun a w' hS hold hin K hK => ?_⟩
        obtain ⟨y46, x46, rfl⟩ := hin 46 rfl (by omega)
        refine if_guard (d := 68) rfl rfl x46 ?_
        exact op_ld_el (.tmp 7) rfl rfl _ (eval_tmp ((hold 7 (slots_not (by kernel_rfl))).trans h7)) hS.1 hK
      · obtain rfl := Option.some.inj ho
        refine ⟨rfl, fun a w' hS hold hin K hK => ?_⟩
        obtain ⟨y46, x46, rfl⟩ := hin 46 rfl (by omega)
        obtain ⟨y47, x47, (v47 : IsEl na y47)⟩ := hin 47 rfl (by omega)
        obtain ⟨y48, x48, (v48 : IsEl na y48)⟩ := hin 48 rfl (by omega)
        refine if_guard (d := 68) rfl rfl x46 ?_
        exact op_fn2 _ _ _ _ _ _ rfl rfl (eval_tmp x47) (eval_tmp x48) (by intro args w; kernel_rfl) (sub_el v47 v48 _) hK
      · obtain rfl := Option.some.inj ho
        refine ⟨rfl, fun a w' hS hold hin K hK => ?_⟩
        obtain ⟨y46, x46, rfl⟩ := hin 46 rfl (by omega)
        obtain ⟨y49, x49, (v49 : IsEl (na - na) y49)⟩ := hin 49 rfl (by omega)
        refine if_guard (d := 68) rfl rfl x46 ?_
        exact op_fn1 _ _ _ _ rfl rfl (eval_tmp x49) (by intro args w; kernel_rfl) (zero_el_yes v49 (by grind) _) hK
      · obtain rfl := Option.some.inj ho
        refine ⟨rfl, fun a w' hS hold hin K hK => ?_⟩
        obtain ⟨y46, x46, rfl⟩ := hin 46 rfl (by omega)
        obtain ⟨y50, x50, rfl⟩ := hin 50 rfl (by omega)
        refine if_guard (d := 68) rfl rfl x46 ?_
        exact op_bin (V := (· = .bool true)) _ _ _ _ _ _ _ (.bool true) rfl rfl (eval_tmp x50) rfl (fun w => by kernel_rfl) rfl hK
      · obtain rfl := Option.some.inj ho
        refine ⟨rfl, fun a w' hS hold hin K hK => ?_⟩
        obtain ⟨y46, x46, rfl⟩ := hin 46 rfl (by omega)
        obtain ⟨y51, x51, rfl⟩ := hin 51 rfl (by omega)
        refine if_always rfl ?_
        exact op_pick (V := (· = .bool true)) _ _ _ true _ rfl rfl (eval_tmp x46) (show (Act.eval a _) = _ from (eval_tmp x51)) rfl hK
      · obtain rfl := Option.some.inj ho
        refine ⟨rfl, fun a w' hS hold hin K hK => ?_⟩
        obtain ⟨y52, x52, rfl⟩ := hin 52 rfl (by omega)
        refine if_always rfl ?_
        exact op_move (V := (· = .bool true)) _ _ rfl rfl (eval_tmp x52) rfl hK
      · obtain rfl := Option.some.inj ho
        refine ⟨rfl, fun a w' hS hold hin K hK => ?_⟩
        obtain ⟨y53, x53, rfl⟩ := hin 53 rfl (by omega)
        refine if_guard (d := 75) rfl rfl x53 ?_
        exact op_ld_el (.tmp 7) rfl rfl _ (eval_tmp ((hold 7 (slots_not (by kernel_rfl))).trans h7)) hS.1 hK
      · obtain rfl := Option.some.inj ho
        refine ⟨rfl, fun a w' hS hold hin K hK => ?_⟩
        obtain ⟨y53, x53, rfl⟩ := hin 53 rfl (by omega)
        obtain ⟨y54, x54, (v54 : IsEl na y54)⟩ := hin 54 rfl (by omega)
        refine if_guard (d := 75) rfl rfl x53 ?_
        exact op_fn1 _ _ _ _ rfl rfl (eval_tmp x54) (by intro args w; kernel_rfl) (neg_el v54 _) hK
      · obtain rfl := Option.some.inj ho
        refine ⟨rfl, fun a w' hS hold hin K hK => ?_⟩
        obtain ⟨y53, x53, rfl⟩ := hin 53 rfl (by omega)
        obtain ⟨y55, x55, (v55 : IsEl (0 - na) y55)⟩ := hin 55 rfl (by omega)
        refine if_guard (d := 75) rfl rfl x53 ?_
        exact op_fn1 _ _ _ _ rfl rfl (eval_tmp x55) (by intro args w; kernel_rfl) (neg_el v55 _) hK
      · obtain rfl := Option.some.inj ho
        refine ⟨rfl, fun a w' hS hold hin K hK => ?_⟩
        obtain ⟨y53, x53, rfl⟩ := hin 53 rfl (by omega)
        refine if_guard (d := 75) rfl rfl x53 ?_
        exact op_ld_el (.tmp 7) rfl rfl _ (eval_tmp ((hold 7 (slots_not (by kernel_rfl))).trans h7)) hS.1 hK
      · obtain rfl := Option.some.inj ho
        refine ⟨rfl, fun a w' hS hold hin K hK => ?_⟩
        obtain ⟨y53, x53, rfl⟩ := hin 53 rfl (by omega)
        obtain ⟨y56, x56, (v56 : IsEl (0 - (0 - na)) y56)⟩ := hin 56 rfl (by omega)
        obtain ⟨y57, x57, (v57 : IsEl na y57)⟩ := hin 57 rfl (by omega)
        refine if_guard (d := 75) rfl rfl x53 ?_
        exact op_fn2 _ _ _ _ _ _ rfl rfl (eval_tmp x56) (eval_tmp x57) (by intro args w; kernel_rfl) (one_el v56 v57 (by grind) _) hK
      · obtain rfl := Option.some.inj ho
        refine ⟨rfl, fun a w' hS hold hin K hK => ?_⟩
        obtain ⟨y53, x53, rfl⟩ := hin 53 rfl (by omega)
        obtain ⟨y58, x58, rfl⟩ := hin 58 rfl (by omega)
        refine if_always rfl ?_
        exact op_pick (V := (· = .bool true)) _ _ _ true _ rfl rfl (eval_tmp x53) (show (Act.eval a _) = _ from (eval_tmp x58)) rfl hK
      · obtain rfl := Option.some.inj ho
        refine ⟨rfl, fun a w' hS hold hin K hK => ?_⟩
        obtain ⟨y59, x59, rfl⟩ := hin 59 rfl (by omega)
        refine if_always rfl ?_
        exact op_assign (V := (· = .bool true)) _ _ rfl rfl (eval_tmp x59) rfl hK
    · intro t5 w5 hs hold hout hS
      obtain ⟨_, h11, rfl⟩ : ∃ x, t5[11]? = some x ∧ x = Value.bool true := hout 60 (by omega)
      replace HS := hs.trans HS
      replace h7 := (hold 7 (slots_not (by kernel_rfl))).trans h7
      replace h8 := (hold 8 (slots_not (by kernel_rfl))).trans h8
      replace h9 := (hold 9 (slots_not (by kernel_rfl))).trans h9
      replace h10 := (hold 10 (slots_not (by kernel_rfl))).trans h10
      clear hs hold hout
      go_wp2_with fail
      refine wp_region_all 42 (fun i => [82, 83, 84, 85, 86, 87, 88, 89, 90, 91, 92, 93, 94, 95, 96, 97, 98, 99, 100, 101, 102, 103, 104, 105, 106, 107, 108, 109, 110, 111, 112, 113, 114, 115, 116, 117, 118, 119, 120, 121, 122, 123, 12].getD i 0) (fun i => [IsEl na, IsEl nb, IsEl (na * nb), IsEl nb, IsEl na, IsEl (nb * na), (· = .bool true), (· = .bool true), IsEl na, IsEl nb, IsEl (na * nb), IsEl nc, IsEl ((na * nb) * nc), IsEl na, IsEl nb, IsEl nc, IsEl (nb * nc), IsEl (na * (nb * nc)), (· = .bool true), (· = .bool true), (· = .bool true), IsEl na, IsEl (1 : F), IsEl (na * (1 : F)), IsEl na, (· = .bool true), (· = .bool true), (· = .bool true), IsEl na, IsEl (0 : F), IsEl (na * (0 : F)), (· = .int .u64 18446744073709551615), (· = .bool true), (· = .bool true), (· = .bool true), IsEl na, IsEl (na * na), IsEl na, IsEl na, IsEl (na * na), (· = .bool true), (· = .bool true), (· = .bool true)].getD i (fun _ => True)) (fun w' => ElAt na gx w' ∧ ElAt nb gy w' ∧ ElAt nc gz w' ∧ ElAt 0 gn w' ∧ Below w.heap.size w w')
        (by kernel_rfl) (by kernel_rfl) (by kernel_rfl) (slots_apart (by kernel_rfl)) (slots_lie (by rw [HS]; kernel_rfl)) ⟨hS.1, hS.2.1, hS.2.2.1, hS.2.2.2.1, hS.2.2.2.2.drew⟩ (fun w1 w2 h b => ⟨h.1.keep b, h.2.1.keep b, h.2.2.1.keep b, h.2.2.2.1.keep b, below_call b h.2.2.2.2⟩) ?_ ?_
      · intro i o hi ho
        have hc : i = 0 ∨ i = 1 ∨ i = 2 ∨ i = 3 ∨ i = 4 ∨ i = 5 ∨ i = 6 ∨ i = 7 ∨ i = 8 ∨ i = 9 ∨ i = 10 ∨ i = 11 ∨ i = 12 ∨ i = 13 ∨ i = 14 ∨ i = 15 ∨ i = 16 ∨ i = 17 ∨ i = 18 ∨ i = 19 ∨ i = 20 ∨ i = 21 ∨ i = 22 ∨ i = 23 ∨ i = 24 ∨ i = 25 ∨ i = 26 ∨ i = 27 ∨ i = 28 ∨ i = 29 ∨ i = 30 ∨ i = 31 ∨ i = 32 ∨ i = 33 ∨ i = 34 ∨ i = 35 ∨ i = 36 ∨ i = 37 ∨ i = 38 ∨ i = 39 ∨ i = 40 ∨ i = 41 ∨ i = 42 := by omega
        rcases hc with rfl | rfl | rfl | rfl | rfl | rfl | rfl | rfl | rfl | rfl | rfl | rfl | rfl | rfl | rfl | rfl | rfl | rfl | rfl | rfl | rfl | rfl | rfl | rfl | rfl | rfl | rfl | rfl | rfl | rfl | rfl | rfl | rfl | rfl | rfl | rfl | rfl | rfl | rfl | rfl | rfl | rfl | rfl
        · obtain rfl := Option.some.inj ho
          refine ⟨rfl, fun a w' hS hold hin K hK => ?_⟩
          refine if_always rfl ?_
          exact op_ld_el (.tmp 7) rfl rfl _ (eval_tmp ((hold 7 (slots_not (by kernel_rfl))).trans h7)) hS.1 hK
        · obtain rfl := Option.some.inj ho
          refine ⟨rfl, fun a w' hS hold hin K hK => ?_⟩
          refine if_always rfl ?_
          exact op_ld_el (.tmp 8) rfl rfl _ (eval_tmp ((hold 8 (slots_not (by kernel_rfl))).trans h8)) hS.2.1 hK
        · obtain rfl := Option.some.inj ho
          refine ⟨rfl, fun a w' hS hold hin K hK => ?_⟩
          obtain ⟨y0, x0, (v0 : IsEl na y0)⟩ := hin 0 rfl (by omega)
          obtain ⟨y1, x1, (v1 : IsEl nb y1)⟩ := hin 1 rfl (by omega)
          refine if_always rfl ?_
          exact op_fn2 _ _ _ _ _ _ rfl rfl (eval_tmp x0) (eval_tmp x1) (by intro args w; kernel_rfl) (mul_el v0 v1 _) hK
        · obtain rfl := Option.some.inj ho
          refine ⟨rfl, fun a w' hS hold hin K hK => ?_⟩
          refine if_always rfl ?_
          exact op_ld_el (.tmp 8) rfl rfl _ (eval_tmp ((hold 8 (slots_not (by kernel_rfl))).trans h8)) hS.2.1 hK
        · obtain rfl := Option.some.inj ho
          refine ⟨rfl, fun a w' hS hold hin K hK => ?_⟩
          refine if_always rfl ?_
          exact op_ld_el (.tmp 7) rfl rfl _ (eval_tmp ((hold 7 (slots_not (by kernel_rfl))).trans h7)) hS.1 hK
        · obtain rfl := Option.some.inj ho
          refine ⟨rfl, fun a w' hS hold hin K hK => ?_⟩
          obtain ⟨y3, x3, (v3 : IsEl nb y3)⟩ := hin 3 rfl (by omega)
          obtain ⟨y4, x4, (v4 : IsEl na y4)⟩ := hin 4 rfl (by omega)
          refine if_always rfl ?_
          exact op_fn2 _ _ _ _ _ _ rfl rfl (eval_tmp x3) (eval_tmp x4) (by intro args w; kernel_rfl) (mul_el v3 v4 _) hK
        · obtain rfl := Option.some.inj ho
          refine ⟨rfl, fun a w' hS hold hin K hK => ?_⟩
          obtain ⟨y2, x2, (v2 : IsEl (na * nb) y2)⟩ := hin 2 rfl (by omega)
          obtain ⟨y5, x5, (v5 : IsEl (nb * na) y5)⟩ := hin 5 rfl (by omega)
          refine if_always rfl ?_
          exact op_fn2 _ _ _ _ _ _ rfl rfl (eval_tmp x2) (eval_tmp x5) (by intro args w; kernel_rfl) (one_el v2 v5 (by grind) _) hK
        · obtain rfl := Option.some.inj ho
          refine ⟨rfl, fun a w' hS hold hin K hK => ?_⟩
          obtain ⟨y6, x6, rfl⟩ := hin 6 rfl (by omega)
          refine if_always rfl ?_
          exact op_move (V := (· = .bool true)) _ _ rfl rfl (eval_tmp x6) rfl hK
        · obtain rfl := Option.some.inj ho
          refine ⟨rfl, fun a w' hS hold hin K hK => ?_⟩
          obtain ⟨y7, x7, rfl⟩ := hin 7 rfl (by omega)
          refine if_guard (d := 89) rfl rfl x7 ?_
          exact op_ld_el (.tmp 7) rfl rfl _ (eval_tmp ((hold 7 (slots_not (by kernel_rfl))).trans h7)) hS.1 hK
        · obtain rfl := Option.some.inj ho
          refine ⟨rfl, fun a w' hS hold hin K hK => ?_⟩
          obtain ⟨y7, x7, rfl⟩ := hin 7 rfl (by omega)
          refine if_guard (d := 89) rfl rfl x7 ?_
          exact op_ld_el (.tmp 8) rfl rfl _ (eval_tmp ((hold 8 (slots_not (by kernel_rfl))).trans h8)) hS.2.1 hK
        · obtain rfl := Option.some.inj ho
          refine ⟨rfl, fun a w' hS hold hin K hK => ?_⟩
          obtain ⟨y7, x7, rfl⟩ := hin 7 rfl (by omega)
          obtain ⟨y8, x8, (v8 : IsEl na y8)⟩ := hin 8 rfl (by omega)
          obtain ⟨y9, x9, (v9 : IsEl nb y9)⟩ := hin 9 rfl (by omega)
          refine if_guard (d := 89) rfl rfl x7 ?_
          exact op_fn2 _ _ _ _ _ _ rfl rfl (eval_tmp x8) (eval_tmp x9) (by intro args w; kernel_rfl) (mul_el v8 v9 _) hK
        · obtain rfl := Option.some.inj ho
          refine ⟨rfl, fun a w' hS hold hin K hK => ?_⟩
          obtain ⟨y7, x7, rfl⟩ := hin 7 rfl (by omega)
          refine if_guard (d := 89) rfl rfl x7 ?_
          exact op_ld_el (.tmp 9) rfl rfl _ (eval_tmp ((hold 9 (slots_not (by kernel_rfl))).trans h9)) hS.2.2.1 hK
        · obtain rfl := Option.some.inj ho
          refine ⟨rfl, fun a w' hS hold hin K hK => ?_⟩
          obtain ⟨y7, x7, rfl⟩ := hin 7 rfl (by omega)
          obtain ⟨y10, x10, (v10 : IsEl (na * nb) y10)⟩ := hin 10 rfl (by omega)
          obtain ⟨y11, x11, (v11 : IsEl nc y11)⟩ := hin 11 rfl (by omega)
          refine if_guard (d := 89) rfl rfl x7 ?_
          exact op_fn2 _ _ _ _ _ _ rfl rfl (eval_tmp x10) (eval_tmp x11) (by intro args w; kernel_rfl) (mul_el v10 v11 _) hK
        · obtain rfl := Option.some.inj ho
          refine ⟨rfl, fun a w' hS hold hin K hK => ?_⟩
          obtain ⟨y7, x7, rfl⟩ := hin 7 rfl (by omega)
          refine if_guard (d := 89) rfl rfl x7 ?_
          exact op_ld_el (.tmp 7) rfl rfl _ (eval_tmp ((hold 7 (slots_not (by kernel_rfl))).trans h7)) hS.1 hK
        · obtain rfl := Option.some.inj ho
          refine ⟨rfl, fun a w' hS hold hin K hK => ?_⟩
          obtain ⟨y7, x7, rfl⟩ := hin 7 rfl (by omega)
          refine if_guard (d := 89) rfl rfl x7 ?_
          exact op_ld_el (.tmp 8) rfl rfl _ (eval_tmp ((hold 8 (slots_not (by kernel_rfl))).trans h8)) hS.2.1 hK
        · obtain rfl := Option.some.inj ho
          refine ⟨rfl, fun a w' hS hold hin K hK => ?_⟩
          obtain ⟨y7, x7, rfl⟩ := hin 7 rfl (by omega)
          refine if_guard (d := 89) rfl rfl x7 ?_
          exact op_ld_el (.tmp 9) rfl rfl _ (eval_tmp ((hold 9 (slots_not (by kernel_rfl))).trans h9)) hS.2.2.1 hK
        · obtain rfl := Option.some.inj ho
          refine ⟨rfl, fun a w' hS hold hin K hK => ?_⟩
          obtain ⟨y7, x7, rfl⟩ := hin 7 rfl (by omega)
          obtain ⟨y14, x14, (v14 : IsEl nb y14)⟩ := hin 14 rfl (by omega)
          obtain ⟨y15, x15, (v15 : IsEl nc y15)⟩ := hin 15 rfl (by omega)
          refine if_guard (d := 89) rfl rfl x7 ?_
          exact op_fn2 _ _ _ _ _ _ rfl rfl (eval_tmp x14) (eval_tmp x15) (by intro args w; kernel_rfl) (mul_el v14 v15 _) hK
        · obtain rfl := Option.some.inj ho
          refine ⟨rfl, fun a w' hS hold hin K hK => ?_⟩
          obtain ⟨y7, x7, rfl⟩ := hin 7 rfl (by omega)
          obtain ⟨y13, x13, (v13 : IsEl na y13)⟩ := hin 13 rfl (by omega)
          obtain ⟨y16, x16, (v16 : IsEl (nb * nc) y16)⟩ := hin 16 rfl (by omega)
          refine if_guard (d := 89) rfl rfl x7 ?_
          exact op_fn2 _ _ _ _ _ _ rfl rfl (eval_tmp x13) (eval_tmp x16) (by intro args w; kernel_rfl) (mul_el v13 v16 _) hK
        · obtain rfl := Option.some.inj ho
          refine ⟨rfl, fun a w' hS hold hin K hK => ?_⟩
          obtain ⟨y7, x7, rfl⟩ := hin 7 rfl (by omega)
          obtain ⟨y12, x12, (v12 : IsEl ((na * nb) * nc) y12)⟩ := hin 12 rfl (by omega)
          obtain ⟨y17, x17, (v17 : IsEl (na * (nb * nc)) y17)⟩ := hin 17 rfl (by omega)
          refine if_guard (d := 89) rfl rfl x7 ?_
          exact op_fn2 _ _ _ _ _ _ rfl rfl (eval_tmp x12) (eval_tmp x17) (by intro args w; kernel_rfl) (one_el v12 v17 (by grind) _) hK
        · obtain rfl := Option.some.inj ho
          refine ⟨rfl, fun a w' hS hold hin K hK => ?_⟩
          obtain ⟨y7, x7, rfl⟩ := hin 7 rfl (by omega)
          obtain ⟨y18, x18, rfl⟩ := hin 18 rfl (by omega)
          refine if_always rfl ?_
          exact op_pick (V := (· = .bool true)) _ _ _ true _ rfl rfl (eval_tmp x7) (show (Act.eval a _) = _ from (eval_tmp x18)) rfl hK
        · obtain rfl := Option.some.inj ho
          refine ⟨rfl, fun a w' hS hold hin K hK => ?_⟩
          obtain ⟨y19, x19, rfl⟩ := hin 19 rfl (by omega)
          refine if_always rfl ?_
          exact op_move (V := (· = .bool true)) _ _ rfl rfl (eval_tmp x19) rfl hK
        · obtain rfl := Option.some.inj ho
          refine ⟨rfl, fun a w' hS hold hin K hK => ?_⟩
          obtain ⟨y20, x20, rfl⟩ := hin 20 rfl (by omega)
          refine if_guard (d := 102) rfl rfl x20 ?_
          exact op_ld_el (.tmp 7) rfl rfl _ (eval_tmp ((hold 7 (slots_not (by kernel_rfl))).trans h7)) hS.1 hK
        · obtain rfl := Option.some.inj ho
          refine ⟨rfl, fun a w' hS hold hin K hK => ?_⟩
          obtain ⟨y20, x20, rfl⟩ := hin 20 rfl (by omega)
          refine if_guard (d := 102) rfl rfl x20 ?_
          exact op_fn1 _ _ _ _ rfl rfl rfl (by intro args w; kernel_rfl) (small_evl 1 (by omega) rfl _) hK
        · obtain rfl := Option.some.inj ho
          refine ⟨rfl, fun a w' hS hold hin K hK => ?_⟩
          obtain ⟨y20, x20, rfl⟩ := hin 20 rfl (by omega)
          obtain ⟨y21, x21, (v21 : IsEl na y21)⟩ := hin 21 rfl (by omega)
          obtain ⟨y22, x22, (v22 : IsEl (1 : F) y22)⟩ := hin 22 rfl (by omega)
          refine if_guard (d := 102) rfl rfl x20 ?_
          exact op_fn2 _ _ _ _ _ _ rfl rfl (eval_tmp x21) (eval_tmp x22) (by intro args w; kernel_rfl) (mul_el v21 v22 _) hK
        · obtain rfl := Option.some.inj ho
          refine ⟨rfl, fun a w' hS hold hin K hK => ?_⟩
          obtain ⟨y20, x20, rfl⟩ := hin 20 rfl (by omega)
          refine if_guard (d := 102) rfl rfl x20 ?_
          exact op_ld_el (.tmp 7) rfl rfl _ (eval_tmp ((hold 7 (slots_not (by kernel_rfl))).trans h7)) hS.1 hK
        · obtain rfl := Option.some.inj ho
          refine ⟨rfl, fun a w' hS hold hin K hK => ?_⟩
          obtain ⟨y20, x20, rfl⟩ := hin 20 rfl (by omega)
          obtain ⟨y23, x23, (v23 : IsEl (na * (1 : F)) y23)⟩ := hin 23 rfl (by omega)
          obtain ⟨y24, x24, (v24 : IsEl na y24)⟩ := hin 24 rfl (by omega)
          refine if_guard (d := 102) rfl rfl x20 ?_
          exact op_fn2 _ _ _ _ _ _ rfl rfl (eval_tmp x23) (eval_tmp x24) (by intro args w; kernel_rfl) (one_el v23 v24 (by grind) _) hK
        · obtain rfl := Option.some.inj ho
          refine ⟨rfl, fun a w' hS hold hin K hK => ?_⟩
          obtain ⟨y20, x20, rfl⟩ := hin 20 rfl (by omega)
          obtain ⟨y25, x25, rfl⟩ := hin 25 rfl (by omega)
          refine if_always rfl ?_
          exact op_pick (V := (· = .bool true)) _ _ _ true _ rfl rfl (eval_tmp x20) (show (Act.eval a _) = _ from (eval_tmp x25)) rfl hK
        · obtain rfl := Option.some.inj ho
          refine ⟨rfl, fun a w' hS hold hin K hK => ?_⟩
          obtain ⟨y26, x26, rfl⟩ := hin 26 rfl (by omega)
          refine if_always rfl ?_
          exact op_move (V := (· = .bool true)) _ _ rfl rfl (eval_tmp x26) rfl hK
        · obtain rfl := Option.some.inj ho
          refine ⟨rfl, fun a w' hS hold hin K hK => ?_⟩
          obtain ⟨y27, x27, rfl⟩ := hin 27 rfl (by omega)
          refine if_guard (d := 109) rfl rfl x27 ?_
          exact op_ld_el (.tmp 7) rfl rfl _ (eval_tmp ((hold 7 (slots_not (by kernel_rfl))).trans h7)) hS.1 hK
        · obtain rfl := Option.some.inj ho
          refine ⟨rfl, fun a w' hS hold hin K hK => ?_⟩
          obtain ⟨y27, x27, rfl⟩ := hin 27 rfl (by omega)
          refine if_guard (d := 109) rfl rfl x27 ?_
          exact op_ld_el (.tmp 10) rfl rfl _ (eval_tmp ((hold 10 (slots_not (by kernel_rfl))).trans h10)) hS.2.2.2.1 hK
        · obtain rfl := Option.some.inj ho
          refine ⟨rfl, fun a w' hS hold hin K hK => ?_⟩
          obtain ⟨y27, x27, rfl⟩ := hin 27 rfl (by omega)
          obtain ⟨y28, x28, (v28 : IsEl na y28)⟩ := hin 28 rfl (by omega)
          obtain ⟨y29, x29, (v29 : IsEl (0 : F) y29)⟩ := hin 29 rfl (by omega)
          refine if_guard (d := 109) rfl rfl x27 ?_
          exact op_fn2 _ _ _ _ _ _ rfl rfl (eval_tmp x28) (eval_tmp x29) (by intro args w; kernel_rfl) (mul_el v28 v29 _) hK
        · obtain rfl := Option.some.inj ho
          refine ⟨rfl, fun a w' hS hold hin K hK => ?_⟩
          obtain ⟨y27, x27, rfl⟩ := hin 27 rfl (by omega)
          obtain ⟨y30, x30, (v30 : IsEl (na * (0 : F)) y30)⟩ := hin 30 rfl (by omega)
          refine if_guard (d := 109) rfl rfl x27 ?_
          exact op_fn1 _ _ _ _ rfl rfl (eval_tmp x30) (by intro args w; kernel_rfl) (zero_el_yes v30 (by grind) _) hK
        · obtain rfl := Option.some.inj ho
          refine ⟨rfl, fun a w' hS hold hin K hK => ?_⟩
          obtain ⟨y27, x27, rfl⟩ := hin 27 rfl (by omega)
          obtain ⟨y31, x31, rfl⟩ := hin 31 rfl (by omega)
          refine if_guard (d := 109) rfl rfl x27 ?_
          exact op_bin (V := (· = .bool true)) _ _ _ _ _ _ _ (.bool true) rfl rfl (eval_tmp x31) rfl (fun w => by kernel_rfl) rfl hK
        · obtain rfl := Option.some.inj ho
          refine ⟨rfl, fun a w' hS hold hin K hK => ?_⟩
          obtain ⟨y27, x27, rfl⟩ := hin 27 rfl (by omega)
          obtain ⟨y32, x32, rfl⟩ := hin 32 rfl (by omega)
          refine if_always rfl ?_
          exact op_pick (V := (· = .bool true)) _ _ _ true _ rfl rfl (eval_tmp x27) (show (Act.eval a _) = _ from (eval_tmp x32)) rfl hK
        · obtain rfl := Option.some.inj ho
          refine ⟨rfl, fun a w' hS hold hin K hK => ?_⟩
          obtain ⟨y33, x33, rfl⟩ := hin 33 rfl (by omega)
          refine if_always rfl ?_
          exact op_move (V := (· = .bool true)) _ _ rfl rfl (eval_tmp x33) rfl hK
        · obtain rfl := Option.some.inj ho
          refine ⟨rfl, fun a w' hS hold hin K hK => ?_⟩
          obtain ⟨y34, x34, rfl⟩ := hin 34 rfl (by omega)
          refine if_guard (d := 116) rfl rfl x34 ?_
          exact op_ld_el (.tmp 7) rfl rfl _ (eval_tmp ((hold 7 (slots_not (by kernel_rfl))).trans h7)) hS.1 hK
        · obtain rfl := Option.some.inj ho
          refine ⟨rfl, fun a w' hS hold hin K hK => ?_⟩
          obtain ⟨y34, x34, rfl⟩ := hin 34 rfl (by omega)
          obtain ⟨y35, x35, (v35 : IsEl na y35)⟩ := hin 35 rfl (by omega)
          refine if_guard (d := 116) rfl rfl x34 ?_
          exact op_fn1 _ _ _ _ rfl rfl (eval_tmp x35) (by intro args w; kernel_rfl) (square_el v35 _) hK
        · obtain rfl := Option.some.inj ho
          refine ⟨rfl, fun a w' hS hold hin K hK => ?_⟩
          obtain ⟨y34, x34, rfl⟩ := hin 34 rfl (by omega)
          refine if_guard (d := 116) rfl rfl x34 ?_
          exact op_ld_el (.tmp 7) rfl rfl _ (eval_tmp ((hold 7 (slots_not (by kernel_rfl))).trans h7)) hS.1 hK
        · obtain rfl := Option.some.inj ho
          refine ⟨rfl, fun a w' hS hold hin K hK => ?_⟩
          obtain ⟨y34, x34, rfl⟩ := hin 34 rfl (by omega)
          refine if_guard (d := 116) rfl rfl x34 ?_
          exact op_ld_el (.tmp 7) rfl rfl _ (eval_tmp ((hold 7 (slots_not (by kernel_rfl))).trans h7)) hS.1 hK
        · obtain rfl := Option.some.inj ho
          refine ⟨rfl, fun a w' hS hold hin K hK => ?_⟩
          obtain ⟨y34, x34, rfl⟩ := hin 34 rfl (by omega)
          obtain ⟨y37, x37, (v37 : IsEl na y37)⟩ := hin 37 rfl (by omega)
          obtain ⟨y38, x38, (v38 : IsEl na y38)⟩ := hin 38 rfl (by omega)
          refine if_guard (d := 116) rfl rfl x34 ?_
          exact op_fn2 _ _ _ _ _ _ rfl rfl (eval_tmp x37) (eval_tmp x38) (by intro args w; kernel_rfl) (mul_el v37 v38 _) hK
        · obtain rfl := Option.some.inj ho
          refine ⟨rfl, fun a w' hS hold hin K hK => ?_⟩
          obtain ⟨y34, x34, rfl⟩ := hin 34 rfl (by omega)
          obtain ⟨y36, x36, (v36 : IsEl (na * na) y36)⟩ := hin 36 rfl (by omega)
          obtain ⟨y39, x39, (v39 : IsEl (na * na) y39)⟩ := hin 39 rfl (by omega)
          refine if_guard (d := 116) rfl rfl x34 ?_
          exact op_fn2 _ _ _ _ _ _ rfl rfl (eval_tmp x36) (eval_tmp x39) (by intro args w; kernel_rfl) (one_el v36 v39 (by grind) _) hK
        · obtain rfl := Option.some.inj ho
          refine ⟨rfl, fun a w' hS hold hin K hK => ?_⟩
          obtain ⟨y34, x34, rfl⟩ := hin 34 rfl (by omega)
          obtain ⟨y40, x40, rfl⟩ := hin 40 rfl (by omega)
          refine if_always rfl ?_
          exact op_pick (V := (· = .bool true)) _ _ _ true _ rfl rfl (eval_tmp x34) (show (Act.eval a _) = _ from (eval_tmp x40)) rfl hK
        · obtain rfl := Option.some.inj ho
          refine ⟨rfl, fun a w' hS hold hin K hK => ?_⟩
          obtain ⟨y41, x41, rfl⟩ := hin 41 rfl (by omega)
          refine if_always rfl ?_
          exact op_assign (V := (· = .bool true)) _ _ rfl rfl (eval_tmp x41) rfl hK
      · intro t6 w6 hs hold hout hS
        obtain ⟨_, h12, rfl⟩ : ∃ x, t6[12]? = some x ∧ x = Value.bool true := hout 42 (by omega)
        replace HS := hs.trans HS
        replace h7 := (hold 7 (slots_not (by kernel_rfl))).trans h7
        replace h8 := (hold 8 (slots_not (by kernel_rfl))).trans h8
        replace h9 := (hold 9 (slots_not (by kernel_rfl))).trans h9
        replace h10 := (hold 10 (slots_not (by kernel_rfl))).trans h10
        replace h11 := (hold 11 (slots_not (by kernel_rfl))).trans h11
        clear hs hold hout
        go_wp2_with fail
        refine wp_region_all 28 (fun i => [124, 125, 126, 127, 128, 129, 130, 131, 132, 133, 134, 135, 136, 137, 138, 139, 140, 141, 142, 143, 144, 145, 146, 147, 148, 149, 150, 151, 13].getD i 0) (fun i => [IsEl na, IsEl nb, IsEl nc, IsEl (nb + nc), IsEl (na * (nb + nc)), IsEl na, IsEl nb, IsEl (na * nb), IsEl na, IsEl nc, IsEl (na * nc), IsEl ((na * nb) + (na * nc)), (· = .bool true), (· = .bool true), IsEl na, IsEl nb, IsEl (na + nb), IsEl na, IsEl nb, IsEl (na - nb), IsEl ((na + nb) * (na - nb)), IsEl na, IsEl (na * na), IsEl nb, IsEl (nb * nb), IsEl ((na * na) - (nb * nb)), (· = .bool true), (· = .bool true), (· = .bool true)].getD i (fun _ => True)) (fun w' => ElAt na gx w' ∧ ElAt nb gy w' ∧ ElAt nc gz w' ∧ ElAt 0 gn w' ∧ Below w.heap.size w w')
          (by kernel_rfl) (by kernel_rfl) (by kernel_rfl) (slots_apart (by kernel_rfl)) (slots_lie (by rw [HS]; kernel_rfl)) ⟨hS.1, hS.2.1, hS.2.2.1, hS.2.2.2.1, hS.2.2.2.2.drew⟩ (fun w1 w2 h b => ⟨h.1.keep b, h.2.1.keep b, h.2.2.1.keep b, h.2.2.2.1.keep b, below_call b h.2.2.2.2⟩) ?_ ?_
        · intro i o hi ho
          have hc : i = 0 ∨ i = 1 ∨ i = 2 ∨ i = 3 ∨ i = 4 ∨ i = 5 ∨ i = 6 ∨ i = 7 ∨ i = 8 ∨ i = 9 ∨ i = 10 ∨ i = 11 ∨ i = 12 ∨ i = 13 ∨ i = 14 ∨ i = 15 ∨ i = 16 ∨ i = 17 ∨ i = 18 ∨ i = 19 ∨ i = 20 ∨ i = 21 ∨ i = 22 ∨ i = 23 ∨ i = 24 ∨ i = 25 ∨ i = 26 ∨ i = 27 ∨ i = 28 := by omega
          rcases hc with rfl | rfl | rfl | rfl | rfl | rfl | rfl | rfl | rfl | rfl | rfl | rfl | rfl | rfl | rfl | rfl | rfl | rfl | rfl | rfl | rfl | rfl | rfl | rfl | rfl | rfl | rfl | rfl | rfl
          · obtain rfl := Option.some.inj ho
            refine ⟨rfl, fun a w' hS hold hin K hK => ?_⟩
            refine if_always rfl ?_
            exact op_ld_el (.tmp 7) rfl rfl _ (eval_tmp ((hold 7 (slots_not (by kernel_rfl))).trans h7)) hS.1 hK
          · obtain rfl := Option.some.inj ho
            refine ⟨rfl, fun a w' hS hold hin K hK => ?_⟩
            refine if_always rfl ?_
            exact op_ld_el (.tmp 8) rfl rfl _ (eval_tmp ((hold 8 (slots_not (by kernel_rfl))).trans h8)) hS.2.1 hK
          · obtain rfl := Option.some.inj ho
            refine ⟨rfl, fun a w' hS hold hin K hK => ?_⟩
            refine if_always rfl ?_
            exact op_ld_el (.tmp 9) rfl rfl _ (eval_tmp ((hold 9 (slots_not (by kernel_rfl))).trans h9)) hS.2.2.1 hK
          · obtain rfl := Option.some.inj ho
            refine ⟨rfl, fun a w' hS hold hin K hK => ?_⟩
            obtain ⟨y1, x1, (v1 : IsEl nb y1)⟩ := hin 1 rfl (by omega)
            obtain ⟨y2, x2, (v2 : IsEl nc y2)⟩ := hin 2 rfl (by omega)
            refine if_always rfl ?_
            exact op_fn2 _ _ _ _ _ _ rfl rfl (eval_tmp x1) (eval_tmp x2) (by intro args w; kernel_rfl) (add_el v1 v2 _) hK
          · obtain rfl := Option.some.inj ho
            refine ⟨rfl, fun a w' hS hold hin K hK => ?_⟩
            obtain ⟨y0, x0, (v0 : IsEl na y0)⟩ := hin 0 rfl (by omega)
            obtain ⟨y3, x3, (v3 : IsEl (nb + nc) y3)⟩ := hin 3 rfl (by omega)
            refine if_always rfl ?_
            exact op_fn2 _ _ _ _ _ _ rfl rfl (eval_tmp x0) (eval_tmp x3) (by intro args w; kernel_rfl) (mul_el v0 v3 _) hK
          · obtain rfl := Option.some.inj ho
            refine ⟨rfl, fun a w' hS hold hin K hK => ?_⟩
            refine if_always rfl ?_
            exact op_ld_el (.tmp 7) rfl rfl _ (eval_tmp ((hold 7 (slots_not (by kernel_rfl))).trans h7)) hS.1 hK
          · obtain rfl := Option.some.inj ho
            refine ⟨rfl, fun a w' hS hold hin K hK => ?_⟩
            refine if_always rfl ?_
            exact op_ld_el (.tmp 8) rfl rfl _ (eval_tmp ((hold 8 (slots_not (by kernel_rfl))).trans h8)) hS.2.1 hK
          · obtain rfl := Option.some.inj ho
            refine ⟨rfl, fun a w' hS hold hin K hK => ?_⟩
            obtain ⟨y5, x5, (v5 : IsEl na y5)⟩ := hin 5 rfl (by omega)
            obtain ⟨y6, x6, (v6 : IsEl nb y6)⟩ := hin 6 rfl (by omega)
            refine if_always rfl ?_
            exact op_fn2 _ _ _ _ _ _ rfl rfl (eval_tmp x5) (eval_tmp x6) (by intro args w; kernel_rfl) (mul_el v5 v6 _) hK
          · obtain rfl := Option.some.inj ho
            refine ⟨rfl, fun a w' hS hold hin K hK => ?_⟩
            refine if_always rfl ?_
            exact op_ld_el (.tmp 7) rfl rfl _ (eval_tmp ((hold 7 (slots_not (by kernel_rfl))).trans h7)) hS.1 hK
          · obtain rfl := Option.some.inj ho
            refine ⟨rfl, fun a w' hS hold hin K hK => ?_⟩
            refine if_always rfl ?_
            exact op_ld_el (.tmp 9) rfl rfl _ (eval_tmp ((hold 9 (slots_not (by kernel_rfl))).trans h9)) hS.2.2.1 hK
          · obtain rfl := Option.some.inj ho
            refine ⟨rfl, fun a w' hS hold hin K hK => ?_⟩
            obtain ⟨y8, x8, (v8 : IsEl na y8)⟩ := hin 8 rfl (by omega)
            obtain ⟨y9, x9, (v9 : IsEl nc y9)⟩ := hin 9 rfl (by omega)
            refine if_always rfl ?_
            exact op_fn2 _ _ _ _ _ _ rfl rfl (eval_tmp x8) (eval_tmp x9) (by intro args w; kernel_rfl) (mul_el v8 v9 _) hK
          · obtain rfl := Option.some.inj ho
            refine ⟨rfl, fun a w' hS hold hin K hK => ?_⟩
            obtain ⟨y7, x7, (v7 : IsEl (na * nb) y7)⟩ := hin 7 rfl (by omega)
            obtain ⟨y10, x10, (v10 : IsEl (na * nc) y10)⟩ := hin 10 rfl (by omega)
            refine if_always rfl ?_
            exact op_fn2 _ _ _ _ _ _ rfl rfl (eval_tmp x7) (eval_tmp x10) (by intro args w; kernel_rfl) (add_el v7 v10 _) hK
          · obtain rfl := Option.some.inj ho
            refine ⟨rfl, fun a w' hS hold hin K hK => ?_⟩
            obtain ⟨y4, x4, (v4 : IsEl (na * (nb + nc)) y4)⟩ := hin 4 rfl (by omega)
            obtain ⟨y11, x11, (v11 : IsEl ((na * nb) + (na * nc)) y11)⟩ := hin 11 rfl (by omega)
            refine if_always rfl ?_
            exact op_fn2 _ _ _ _ _ _ rfl rfl (eval_tmp x4) (eval_tmp x11) (by intro args w; kernel_rfl) (one_el v4 v11 (by grind) _) hK
          · obtain rfl := Option.some.inj ho
            refine ⟨rfl, fun a w' hS hold hin K hK => ?_⟩
            obtain ⟨y12, x12, rfl⟩ := hin 12 rfl (by omega)
            refine if_always rfl ?_
            exact op_move (V := (· = .bool true)) _ _ rfl rfl (eval_tmp x12) rfl hK
          · obtain rfl := Option.some.inj ho
            refine ⟨rfl, fun a w' hS hold hin K hK => ?_⟩
            obtain ⟨y13, x13, rfl⟩ := hin 13 rfl (by omega)
            refine if_guard (d := 137) rfl rfl x13 ?_
            exact op_ld_el (.tmp 7) rfl rfl _ (eval_tmp ((hold 7 (slots_not (by kernel_rfl))).trans h7)) hS.1 hK
          · obtain rfl := Option.some.inj ho
            refine ⟨rfl, fun a w' hS hold hin K hK => ?_⟩
            obtain ⟨y13, x13, rfl⟩ := hin 13 rfl (by omega)
            refine if_guard (d := 137) rfl rfl x13 ?_
            exact op_ld_el (.tmp 8) rfl rfl _ (eval_tmp ((hold 8 (slots_not (by kernel_rfl))).trans h8)) hS.2.1 hK
          · obtain rfl := Option.some.inj ho
            refine ⟨rfl, fun a w' hS hold hin K hK => ?_⟩
            obtain ⟨y13, x13, rfl⟩ := hin 13 rfl (by omega)
            obtain ⟨y14, x14, (v14 : IsEl na y14)⟩ := hin 14 rfl (by omega)
            obtain ⟨y15, x15, (v15 : IsEl nb y15)⟩ := hin 15 rfl (by omega)
            refine if_guard (d := 137) rfl rfl x13 ?_
            exact op_fn2 _ _ _ _ _ _ rfl rfl (eval_tmp x14) (eval_tmp x15) (by intro args w; kernel_rfl) (add_el v14 v15 _) hK
          · obtain rfl := Option.some.inj ho
            refine ⟨rfl, fun a w' hS hold hin K hK => ?_⟩
            obtain ⟨y13, x13, rfl⟩ := hin 13 rfl (by omega)
            refine if_guard (d := 137) rfl rfl x13 ?_
            exact op_ld_el (.tmp 7) rfl rfl _ (eval_tmp ((hold 7 (slots_not (by kernel_rfl))).trans h7)) hS.1 hK
          · obtain rfl := Option.some.inj ho
            refine ⟨rfl, fun a w' hS hold hin K hK => ?_⟩
            obtain ⟨y13, x13, rfl⟩ := hin 13 rfl (by omega)
            refine if_guard (d := 137) rfl rfl x13 ?_
            exact op_ld_el (.tmp 8) rfl rfl _ (eval_tmp ((hold 8 (slots_not (by kernel_rfl))).trans h8)) hS.2.1 hK
          · obtain rfl := Option.some.inj ho
            refine ⟨rfl, fun a w' hS hold hin K hK => ?_⟩
            obtain ⟨y13, x13, rfl⟩ := hin 13 rfl (by omega)
            obtain ⟨y17, x17, (v17 : IsEl na y17)⟩ := hin 17 rfl (by omega)
            obtain ⟨y18, x18, (v18 : IsEl nb y18)⟩ := hin 18 rfl (by omega)
            refine if_guard (d := 137) rfl rfl x13 ?_
            exact op_fn2 _ _ _ _ _ _ rfl rfl (eval_tmp x17) (eval_tmp x18) (by intro args w; kernel_rfl) (sub_el v17 v18 _) hK
          · obtain rfl := Option.some.inj ho
            refine ⟨rfl, fun a w' hS hold hin K hK => ?_⟩
            obtain ⟨y13, x13, rfl⟩ := hin 13 rfl (by omega)
            obtain ⟨y16, x16, (v16 : IsEl (na + nb) y16)⟩ := hin 16 rfl (by omega)
            obtain ⟨y19, x19, (v19 : IsEl (na - nb) y19)⟩ := hin 19 rfl (by omega)
            refine if_guard (d := 137) rfl rfl x13 ?_
            exact op_fn2 _ _ _ _ _ _ rfl rfl (eval_tmp x16) (eval_tmp x19) (by intro args w; kernel_rfl) (mul_el v16 v19 _) hK
          · obtain rfl := Option.some.inj ho
            refine ⟨rfl, fun a w' hS hold hin K hK => ?_⟩
            obtain ⟨y13, x13, rfl⟩ := hin 13 rfl (by omega)
            refine if_guard (d := 137) rfl rfl x13 ?_
            exact op_ld_el (.tmp 7) rfl rfl _ (eval_tmp ((hold 7 (slots_not (by kernel_rfl))).trans h7)) hS.1 hK
          · obtain rfl := Option.some.inj ho
            refine ⟨rfl, fun a w' hS hold hin K hK => ?_⟩
            obtain ⟨y13, x13, rfl⟩ := hin 13 rfl (by omega)
            obtain ⟨y21, x21, (v21 : IsEl na y21)⟩ := hin 21 rfl (by omega)
            refine if_guard (d := 137) rfl rfl x13 ?_
            exact op_fn1 _ _ _ _ rfl rfl (eval_tmp x21) (by intro args w; kernel_rfl) (square_el v21 _) hK
          · obtain rfl := Option.some.inj ho
            refine ⟨rfl, fun a w' hS hold hin K hK => ?_⟩
            obtain ⟨y13, x13, rfl⟩ := hin 13 rfl (by omega)
            refine if_guard (d := 137) rfl rfl x13 ?_
            exact op_ld_el (.tmp 8) rfl rfl _ (eval_tmp ((hold 8 (slots_not (by kernel_rfl))).trans h8)) hS.2.1 hK
          · obtain rfl := Option.some.inj ho
            refine ⟨rfl, fun a w' hS hold hin K hK => ?_⟩
            obtain ⟨y13, x13, rfl⟩ := hin 13 rfl (by omega)
            obtain ⟨y23, x23, (v23 : IsEl nb y23)⟩ := hin 23 rfl (by omega)
            refine if_guard (d := 137) rfl rfl x13 ?_
            exact op_fn1 _ _ _ _ rfl rfl (eval_tmp x23) (by intro args w; kernel_rfl) (square_el v23 _) hK
          · obtain rfl := Option.some.inj ho
            refine ⟨rfl, fun a w' hS hold hin K hK => ?_⟩
            obtain ⟨y13, x13, rfl⟩ := hin 13 rfl (by omega)
            obtain ⟨y22, x22, (v22 : IsEl (na * na) y22)⟩ := hin 22 rfl (by omega)
            obtain ⟨y24, x24, (v24 : IsEl (nb * nb) y24)⟩ := hin 24 rfl (by omega)
            refine if_guard (d := 137) rfl rfl x13 ?_
            exact op_fn2 _ _ _ _ _ _ rfl rfl (eval_tmp x22) (eval_tmp x24) (by intro args w; kernel_rfl) (sub_el v22 v24 _) hK
          · obtain rfl := Option.some.inj ho
            refine ⟨rfl, fun a w' hS hold hin K hK => ?_⟩
            obtain ⟨y13, x13, rfl⟩ := hin 13 rfl (by omega)
            obtain ⟨y20, x20, (v20 : IsEl ((na + nb) * (na - nb)) y20)⟩ := hin 20 rfl (by omega)
            obtain ⟨y25, x25, (v25 : IsEl ((na * na) - (nb * nb)) y25)⟩ := hin 25 rfl (by omega)
            refine if_guard (d := 137) rfl rfl x13 ?_
            exact op_fn2 _ _ _ _ _ _ rfl rfl (eval_tmp x20) (eval_tmp x25) (by intro args w; kernel_rfl) (one_el v20 v25 (by grind) _) hK
          · obtain rfl := Option.some.inj ho
            refine ⟨rfl, fun a w' hS hold hin K hK => ?_⟩
            obtain ⟨y13, x13, rfl⟩ := hin 13 rfl (by omega)
            obtain ⟨y26, x26, rfl⟩ := hin 26 rfl (by omega)
            refine if_always rfl ?_
            exact op_pick (V := (· = .bool true)) _ _ _ true _ rfl rfl (eval_tmp x13) (show (Act.eval a _) = _ from (eval_tmp x26)) rfl hK
          · obtain rfl := Option.some.inj ho
            refine ⟨rfl, fun a w' hS hold hin K hK => ?_⟩
            obtain ⟨y27, x27, rfl⟩ := hin 27 rfl (by omega)
            refine if_always rfl ?_
            exact op_assign (V := (· = .bool true)) _ _ rfl rfl (eval_tmp x27) rfl hK
        · intro t7 w7 hs hold hout hS
          obtain ⟨_, h13, rfl⟩ : ∃ x, t7[13]? = some x ∧ x = Value.bool true := hout 28 (by omega)
          replace HS := hs.trans HS
          replace h7 := (hold 7 (slots_not (by kernel_rfl))).trans h7
          replace h8 := (hold 8 (slots_not (by kernel_rfl))).trans h8
          replace h9 := (hold 9 (slots_not (by kernel_rfl))).trans h9
          replace h10 := (hold 10 (slots_not (by kernel_rfl))).trans h10
          replace h11 := (hold 11 (slots_not (by kernel_rfl))).trans h11
          replace h12 := (hold 12 (slots_not (by kernel_rfl))).trans h12
          clear hs hold hout
          obtain ⟨f, e0, hf⟩ := wash HS
          have f11 := hf 11 _ h11
          have f12 := hf 12 _ h12
          have f13 := hf 13 _ h13
          clear h7
          clear h8
          clear h9
          clear h10
          clear h11
          clear h12
          clear h13
          rw [e0.trans (show _ = #[f 0, f 1, f 2, f 3, f 4, f 5, f 6, f 7, f 8, f 9, f 10, f 11, f 12, f 13, f 14, f 15, f 16, f 17, f 18, f 19, f 20, f 21, f 22, f 23, f 24, f 25, f 26, f 27, f 28, f 29, f 30, f 31, f 32, f 33, f 34, f 35, f 36, f 37, f 38, f 39, f 40, f 41, f 42, f 43, f 44, f 45, f 46, f 47, f 48, f 49, f 50, f 51, f 52, f 53, f 54, f 55, f 56, f 57, f 58, f 59, f 60, f 61, f 62, f 63, f 64, f 65, f 66, f 67, f 68, f 69, f 70, f 71, f 72, f 73, f 74, f 75, f 76, f 77, f 78, f 79, f 80, f 81, f 82, f 83, f 84, f 85, f 86, f 87, f 88, f 89, f 90, f 91, f 92, f 93, f 94, f 95, f 96, f 97, f 98, f 99, f 100, f 101, f 102, f 103, f 104, f 105, f 106, f 107, f 108, f 109, f 110, f 111, f 112, f 113, f 114, f 115, f 116, f 117, f 118, f 119, f 120, f 121, f 122, f 123, f 124, f 125, f 126, f 127, f 128, f 129, f 130, f 131, f 132, f 133, f 134, f 135, f 136, f 137, f 138, f 139, f 140, f 141, f 142, f 143, f 144, f 145, f 146, f 147, f 148, f 149, f 150, f 151, f 152, f 153, f 154, f 155, f 156, f 157, f 158] from by kernel_rfl), f11, f12, f13]
          go_wp2_with fail
          go_returns
          exact ⟨rfl, hS.2.2.2.2⟩
end Go.Proofs.Ytciakfhjjnmeeaa
