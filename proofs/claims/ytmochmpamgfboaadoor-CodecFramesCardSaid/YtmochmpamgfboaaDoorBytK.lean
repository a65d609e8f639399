/- The references' helpers for bytes, more: Kept, CopyBytes. Condition: lengths that memory can hold. -/
import Derived.Test.YtmochmpamgfboaaDoorBytW
namespace Go.Proofs.YtmochmpamgfboaaDoor
open Go.RowKit

set_option maxHeartbeats 2000000 in
set_option maxRecDepth 100000 in
theorem kept_any (g : Nat) (t : TypeId) (p : Option Addr) (l : List Int) (n c : Nat) (w : World) (hn : l.length = n) (hg : w.heap[g]? = some (.cells (vals (spareL l)) t (0, 0))) (h : BytesIn w p l) (hm : n ≤ 140737488355328) :
    Calls Tryd.prog 27 #[.slice (some ⟨g, 0, none⟩) n (n + 80), .slice p n c] w (Gives (· = .bool true) w) := by
  have H := Lib.hid h
  have HN := Lib.hid hn
  have HG := Lib.hid hg
  have hS := Own.start w
  clear h hn hg
  go_enter Tryd.func27, Tryd.ntmps27
  go_wp2_with ((with_reducible refine guard_list ?_); first | (refine held_call _ rfl ?_))
  obtain ⟨M, hM⟩ : ∃ M, M = w.heap.size := ⟨_, rfl⟩
  refine hide_held fun t0 HT => ?_
  have HS : t0.size = 32 := by rw [HT]; rfl
  have h0 : t0[0]? = some (.slice (some ⟨g, 0, none⟩) n (n + 80)) := by rw [HT]; rfl
  have h1 : t0[1]? = some (.slice p n c) := by rw [HT]; rfl
  refine wp_from_all 3 (fun i => [7, 8, 9, 10].getD i 0) (fun i => [(· = .slice (some ⟨g, 0, none⟩) n (n + 80)), (· = .slice p n c), (· = .bool true), (· = .bool false)].getD i (fun _ => True)) (fun w' => Own w [] w' ∧ M ≤ w'.heap.size)
    2 (by omega) (by kernel_rfl) ?_ (by kernel_rfl) (slots_apart (by kernel_rfl)) (slots_lie (by rw [HS]; kernel_rfl)) ⟨hS, Nat.le_of_eq hM⟩ (fun w1 w2 h b => ⟨h.1.keep b, Nat.le_trans h.2 b.size⟩) ?_ ?_
  · intro j hj
    have hc : j = 0 ∨ j = 1 := by omega
    rcases hc with rfl | rfl
    · exact ⟨_, by rw [HT]; rfl, rfl⟩
    · exact ⟨_, by rw [HT]; rfl, rfl⟩
  · clear hS
    intro i o h0i hi ho
    have hc : i = 2 ∨ i = 3 := by omega
    rcases hc with rfl | rfl
    · obtain rfl := Option.some.inj ho
      refine ⟨rfl, fun a w' hS hold hin K hK => ?_⟩
      obtain ⟨y0, x0, rfl⟩ := hin 0 rfl (by omega)
      obtain ⟨y1, x1, rfl⟩ := hin 1 rfl (by omega)
      refine if_always rfl ?_
      exact op_fn2 _ _ _ _ _ _ rfl rfl (eval_tmp x0) (eval_tmp x1) (by intro args w; kernel_rfl) ((eqBytes_any _ _ l l n n _ _ _ HN.out HN.out (BytesIn.vals 0 (row_under hS.1.1 HG.out) (by rw [List.drop_zero]; exact spareL_take l)) (H.out.under hS.1.1 (Nat.le_refl _)) (by omega)).mono fun _ _ ⟨r, e1, e2, e3⟩ => ⟨r, e1, e2.trans (by rw [decide_eq_true rfl]), e3⟩) hK
    · obtain rfl := Option.some.inj ho
      refine ⟨rfl, fun a w' hS hold hin K hK => ?_⟩
      obtain ⟨y2, x2, rfl⟩ := hin 2 rfl (by omega)
      refine if_always rfl ?_
      exact op_un (V := (· = .bool false)) _ _ _ _ (.bool false) rfl rfl (eval_tmp x2) (fun w => by kernel_rfl) rfl hK
  clear hS
  intro t1 V1 hs hold hout hS
  replace HS := hs.trans HS
  replace hS := hS.1
  obtain ⟨_, q10, rfl⟩ : ∃ x, t1[10]? = some x ∧ x = (.bool false : Value) := hout 3 (by omega)
  replace h0 := (hold 0 (slots_not (by kernel_rfl))).trans h0
  replace h1 := (hold 1 (slots_not (by kernel_rfl))).trans h1
  clear hold hout hs
  clear HT
  obtain ⟨f, e0, hf⟩ := wash HS
  have f0 := hf 0 _ h0
  have f1 := hf 1 _ h1
  have f10 := hf 10 _ q10
  clear hf
  rw [e0.trans (show _ = #[f 0, f 1, f 2, f 3, f 4, f 5, f 6, f 7, f 8, f 9, f 10, f 11, f 12, f 13, f 14, f 15, f 16, f 17, f 18, f 19, f 20, f 21, f 22, f 23, f 24, f 25, f 26, f 27, f 28, f 29, f 30, f 31] from by kernel_rfl), f0, f1, f10]
  clear f0 f1 f10
  clear e0
  try dsimp only
  clear h0 h1 q10 hM HS t1 t0 M
  go_wp2_with fail
  go_loopw [6] (fun i wr => ∃ k : Nat, n ≤ k ∧ k ≤ n + 80 ∧ i = .int .i64 k ∧ Own w [] wr) (fun i _ => n + 80 - (intOf i).toNat)
  case atStart => exact ⟨n, Nat.le_refl _, by omega, rfl, hS⟩
  case round =>
    clear hS
    obtain ⟨k, hk0, hk, rfl, hS⟩ := hrel
    have HSL := Lib.hid (spareL_len l)
    by_cases hlt : k < n + 80
    · have R := row_under hS.1 HG.out
      have ca := (row_cell R k).trans (vals_get (by rw [HSL.out, HN.out]; exact hlt))
      rw [spareL_hi l k (by rw [HN.out]; exact hk0) (by rw [HN.out]; exact hlt)] at ca
      simp only [mrk] at ca
      have HS2 := Lib.hid hS
      clear hS R
      go_wp2
      go_roundw
      case rel => exact ⟨k + 1, by omega, by omega, by go_num, HS2.out⟩
      case measure => simp [intOf]; omega
    · obtain rfl : k = n + 80 := by omega
      have HB := Lib.hid hS.1
      clear hS
      go_wp2
      exact ⟨rfl, .bool true, by kernel_rfl, _, rfl, rfl, HB.out⟩

set_option maxHeartbeats 2000000 in
set_option maxRecDepth 100000 in
theorem copyBytes_any (p : Option Addr) (l : List Int) (n c : Nat) (w : World) (hn : l.length = n) (h : BytesIn w p l) (hm : n ≤ 140737488355328) :
    Calls Tryd.prog 28 #[.slice p n c] w (NewB w l) := by
  obtain ⟨ie, hie, hsz⟩ := Option.map_eq_some_iff.1 (show (Tryd.prog.info? 5).map (fun i => (i.zero, i.size, i.bytes)) = some (some (.int .u8 0), 1, 1) by kernel_rfl)
  obtain ⟨hz, hs1, hb1⟩ : ie.zero = some (.int .u8 0) ∧ ie.size = 1 ∧ ie.bytes = 1 := by simpa using hsz
  have hmk : ∀ u : World, (Instr.makeSlice 26 (.int .i64 0) (.int .i64 (n : Int))).run Tryd.prog u = .ok (.slice (some ⟨u.heap.size, 0, none⟩) 0 n) (u.alloc (.cells (vals (List.replicate n 0)) 5)) := fun u => by
    have hr := run_make (P := Tryd.prog) u 26 5 ie (.int .u8 0) Tryd.underlying26 hie hz .i64 .i64 0 (n : Int) (by omega) (by omega) (by rw [hb1]; omega) (by omega)
    rw [Int.toNat_natCast, hs1, Nat.mul_one] at hr
    rw [hr, ← made_zero]
    rfl
  have H := Lib.hid h
  have HN := Lib.hid hn
  clear h hn hie hsz hz hs1 hb1
  go_enter Tryd.func28, Tryd.ntmps28
  go_wp2
  have hO : Own w [(w.heap.size, (n * 1), LRow 1 IsB (l.take 0))] (w.alloc (.cells (vals (List.replicate n 0)) 5)) :=
    (Own.of_below (by go_grown)).add (g := w.heap.size) (Nat.le_refl _) (fun r hr => by cases hr) ⟨_, _, heap_alloc_new w _, by simp [vals_size], _, rfl, by simp; exact RowsOf.nil⟩
  have HO := Lib.hid hO
  clear hO hmk
  go_loopw [3, 4] (fun out i wr => ∃ (k g c : Nat), k ≤ n ∧ i = .int .i64 k ∧ out = .slice (some ⟨g, 0, none⟩) (l.take k).length c ∧ ((l.take k).length ≤ c ∧ c ≤ maxLen) ∧ Own w [(g, (c * 1), LRow 1 IsB (l.take k))] wr) (fun _ i _ => n - (intOf i).toNat)
  case atStart => exact ⟨0, w.heap.size, n, by omega, rfl, rfl, ⟨Nat.zero_le _, by simp only [maxLen]; omega⟩, HO.out⟩
  case round =>
    clear HO
    obtain ⟨k, g, c, hk, rfl, rfl, hc, hS⟩ := hrel
    have HC := Lib.hid hc
    clear hc
    by_cases hlt : k < n
    · obtain ⟨a, rfl, _, x1⟩ := H.out.under hS.1 (Nat.le_refl _) k (by rw [HN.out]; exact hlt)
      have hT : l.take k ++ [nth l k] = l.take (k + 1) := (take_nth l k (by rw [HN.out]; exact hlt)).symm
      have HT1 := Lib.hid hT
      have HL := Lib.hid (show (l.take k).length = k by rw [List.length_take, HN.out]; omega)
      clear hT
      generalize nth l k = bx at *
      have HS0 := Lib.hid hS
      clear hS
      go_wp2_with ((with_reducible refine guard_list ?_); first | (refine held_build1 _ _ _ rfl ?_))
      have hS := HS0.out
      clear HS0
      obtain ⟨M, hM⟩ : ∃ M, M = wr.heap.size := ⟨_, rfl⟩
      refine hide_held fun t0 HT => ?_
      have HS : t0.size = 22 := by rw [HT]; rfl
      have h3 : t0[3]? = some (.slice (some ⟨g, 0, none⟩) (l.take k).length c) := by rw [HT]; rfl
      have h4 : t0[4]? = some (.int .i64 k) := by rw [HT]; rfl
      refine wp_from_most 5 (fun i => [14, 15, 16, 17, 18].getD i 0) (fun _ => none) (fun i => [(· = .slice (some ⟨g, 0, none⟩) (l.take k).length c), (fun _ => True), (fun _ => True), (fun _ => True), (· = .int .u8 bx)].getD i (fun _ => True)) (fun w' => Own w [(g, (c * 1), LRow 1 IsB (l.take k))] w' ∧ M ≤ w'.heap.size) M
        5 (by omega) (by kernel_rfl) ?_ (slots_apart (by kernel_rfl)) (slots_lie (by rw [HS]; kernel_rfl)) ⟨hS, Nat.le_of_eq hM⟩ (fun w' h => h.2) (fun w1 w2 h b => ⟨h.1.keep b, Nat.le_trans h.2 b.size⟩) ?_ ?_ ?_
      · intro j hj _
        have hc : j = 0 ∨ j = 1 ∨ j = 2 ∨ j = 3 ∨ j = 4 := by omega
        rcases hc with rfl | rfl | rfl | rfl | rfl
        · exact ⟨rfl, _, by rw [HT]; rfl, rfl⟩
        · exact ⟨rfl, _, by rw [HT]; rfl, trivial⟩
        · exact ⟨rfl, _, by rw [HT]; rfl, trivial⟩
        · exact ⟨rfl, _, by rw [HT]; rfl, trivial⟩
        · exact ⟨rfl, _, by rw [HT]; rfl, rfl⟩
      · clear hS
        intro i o h0i hi ho hA
        exfalso; omega
      · intro i o sz h0i hi ho hA; cases hA
      clear hS
      intro t1 V1 hs hold hout hall hne hS
      have ef := frame_fill 5 (fun i => [14, 15, 16, 17, 18].getD i 0) hs hold (slots_apart (by kernel_rfl)) (slots_lie (by rw [HS]; kernel_rfl))
      replace HS := hs.trans HS
      replace hS := hS.1
      obtain ⟨x18, q18, v18⟩ : ∃ x, t1[18]? = some x ∧ ((· = .int .u8 bx)) x := hout 4 (by omega) rfl
      replace q18 : t1[18]? = some (.int .u8 bx) := q18.trans (congrArg some v18)
      obtain ⟨x14, q14, v14⟩ : ∃ x, t1[14]? = some x ∧ ((· = .slice (some ⟨g, 0, none⟩) (l.take k).length c)) x := hout 0 (by omega) rfl
      replace q14 : t1[14]? = some (.slice (some ⟨g, 0, none⟩) (l.take k).length c) := q14.trans (congrArg some v14)
      replace h3 := (hold 3 (slots_not (by kernel_rfl))).trans h3
      replace h4 := (hold 4 (slots_not (by kernel_rfl))).trans h4
      clear hold hout hs hall hne
      simp only [List.drop_succ_cons, List.drop_zero]
      refine tlx_litb bx 5 (.tmp 18) rfl rfl 19 rfl (by rw [HS]; decide) (by kernel_rfl) (by kernel_rfl) (by kernel_rfl) (eval_tmp q18) hS fun ge tf0 V1' hS' ex0 hz hq he => ?_
      replace h3 := (he 3 (by decide)).trans h3
      replace h4 := (he 4 (by decide)).trans h4
      replace q18 := (he 18 (by decide)).trans q18
      replace q14 := (he 14 (by decide)).trans q14
      replace HS := hz.trans HS
      clear hz he
      have h19 := hq
      clear hq
      replace hS : Own w [(g, (c * 1), LRow 1 IsB (l.take k)), (ge, (1 * 1), LRow 1 IsB [bx])] V1' := hS'
      clear hS'
      refine tlx_append 1 1 5 (.tmp 14) (.tmp 19) rfl rfl 20 rfl (by rw [HS]; decide) (by decide) (by kernel_rfl) (by kernel_rfl) (by kernel_rfl) IsB (l.take k) [bx] _ _ _ _ (eval_tmp q14) (eval_tmp h19) HC.out hS 0 1 _ rfl rfl (fun _ _ h => h.one) (by have := HL.out; simp only [List.length_singleton]; omega) (by have := HL.out; simp only [List.length_singleton, maxLen]; omega) fun g1 c1 tf1 V1'' hS' hcc1 ex1 hz hq he => ?_
      replace h3 := (he 3 (by decide)).trans h3
      replace h4 := (he 4 (by decide)).trans h4
      replace h19 := (he 19 (by decide)).trans h19
      replace q18 := (he 18 (by decide)).trans q18
      replace q14 := (he 14 (by decide)).trans q14
      replace HS := hz.trans HS
      clear hz he
      have h20 := hq
      clear hq
      replace hS : Own w [(g1, (c1 * 1), LRow 1 IsB ((l.take k) ++ [bx])), (ge, (1 * 1), LRow 1 IsB [bx])] V1'' := hS'
      clear hS'
      refine tlx_assign (.tmp 20) rfl rfl 3 rfl (by rw [HS]; decide) (.slice (some ⟨g1, 0, none⟩) ((l.take k) ++ [bx]).length c1) (eval_tmp h20) fun tf2 ex2 hz hq he => ?_
      replace h4 := (he 4 (by decide)).trans h4
      replace h19 := (he 19 (by decide)).trans h19
      replace h20 := (he 20 (by decide)).trans h20
      replace q18 := (he 18 (by decide)).trans q18
      replace q14 := (he 14 (by decide)).trans q14
      replace HS := hz.trans HS
      clear hz he
      clear h3
      have h3 := hq
      clear hq
      refine wpList_nil ?_
      rw [ex2, ex1, ex0, ef, HT]
      clear ef ex0 ex1 ex2
      simp only [fillA, if_true, List.getD_cons_zero, List.getD_cons_succ, List.setIfInBounds_toArray, List.set_cons_zero, List.set_cons_succ]
      generalize t1.getD 14 undef = z14
      generalize t1.getD 15 undef = z15
      generalize t1.getD 16 undef = z16
      generalize t1.getD 17 undef = z17
      generalize t1.getD 18 undef = z18
      clear HT
      clear h3 h4 h19 h20 q18 q14 v18 v14 hM HS tf0 tf1 tf2 t1 t0 M
      replace hS : Own w [(g1, (c1 * 1), LRow 1 IsB ((l.take k) ++ [bx]))] V1'' := hS.take 1
      rw [HT1.out] at hS hcc1
      have HS9 := Lib.hid hS
      have HC1 := Lib.hid hcc1
      clear hS hcc1
      rw [HT1.out]
      go_wp2_with fail
      go_roundw
      case rel => exact ⟨k + 1, g1, c1, by omega, by go_num, rfl, HC1.out, HS9.out⟩
      case measure => simp [intOf]; omega
    · obtain rfl : k = n := by omega
      have eT : l.take k = l := List.take_of_length_le (Nat.le_of_eq HN.out)
      rw [eT] at hS
      rw [eT]
      obtain ⟨cs, t, r1, r2, cs', r3, r4⟩ := hS.get (i := 0) rfl
      injection r3 with r3
      subst r3
      have hg := hS.ge (i := 0) rfl
      have hb := hS.1
      have H4 := Lib.hid (bytes_of_rows r4)
      have H1 := Lib.hid r1
      have H2 := Lib.hid r2
      have HG := Lib.hid hg
      have HB := Lib.hid hb
      clear hS r1 r2 r4 hg hb eT
      go_wp2_with fail
      exact ⟨rfl, .slice (some ⟨g, 0, none⟩) l.length c, by kernel_rfl, HB.out, g, c, cs, t, rfl, HG.out, H1.out, by rw [H2.out, Nat.mul_one], by rw [← H4.out, Nat.mul_one]⟩
end Go.Proofs.YtmochmpamgfboaaDoor
