/- trystref20.ParseTalk, ParseReply. Condition: lengths below 2^40; bytes. -/
import Derived.Test.YtmochmpamgfboaaDoorTalkD
namespace Go.Proofs.YtmochmpamgfboaaDoor
open Go.RowKit
theorem take_set_of {L b : List Int} {k : Nat} {x : Int} (hL : k < L.length) (hb : k < b.length) (h : L.take k = b.take k) (hx : x = nth b k) : (L.set k x).take (k + 1) = b.take (k + 1) := by
  rw [List.take_succ_eq_append_getElem (by simpa using hL), List.getElem_set_self, List.take_set_of_le (Nat.le_refl _), h, hx, ← take_nth b k hb]
set_option maxHeartbeats 4000000 in
set_option maxRecDepth 100000 in
theorem parseTalkR_any (n0 n1 n2 n3 n4 n5 : Int) (p : Option Addr) (n c : Nat) (b : List Int) (w : World) (hn : b.length = n) (h : BytesIn w p b) (hc : n ≤ c) :
    Calls Tryd.prog 15 #[.agg #[.int .i64 n0, .int .i64 n1, .int .i64 n2, .int .i64 n3, .int .i64 n4, .int .i64 n5], .slice p n c] w (AnsD w (talkP (good n0 n1 n2 n3 n4 n5) n1 b).1 (talkP (good n0 n1 n2 n3 n4 n5) n1 b).2.1 (talkP (good n0 n1 n2 n3 n4 n5) n1 b).2.2) := by
  have H := Lib.hid h
  have HN := Lib.hid hn
  have HCC := Lib.hid hc
  clear h hn hc
  by_cases hg : good n0 n1 n2 n3 n4 n5 = true
  · have hmsg := good_msg hg
    have HG := Lib.hid hg
    by_cases hl : (n : Int) = 16 + n1
    · rw [talkP_ok hg (by rw [HN.out]; exact hl)]
      have hcn := HCC.out
      obtain ⟨ad, rfl, _⟩ := H.out 0 (by rw [HN.out]; omega)
      clear hg
      go_enter Tryd.func15, Tryd.ntmps15
      go_wp2_with (go_at_call 38; refine (checkR_yes HG.out _).mono ?_; rintro e w1 ⟨_, rfl, rfl, hb⟩; have hc := conf_cells (new2_0 ..) hb; have HRW := Lib.hid (row_call hb (new2_1 ..)); have HB := Lib.hid (show Below w.heap.size w w1 from below_call hb (by go_grown)); clear hb)
      clear hc
      have HG7 := Lib.hid (show ∃ L T, L.length = 16 ∧ L.take 0 = b.take 0 ∧ (w1.alloc (.cells (vals z16) 25)).heap[w1.heap.size]? = some (.cells (vals L) T (0, 0)) from ⟨z16, _, rfl, rfl, heap_alloc_new w1 _⟩)
      have HB1 := Lib.hid ((Below.refl w1.heap.size w1).alloc (Nat.le_refl _) (.cells (vals z16) 25))
      go_loopw [8] (fun i wr => ∃ k, k ≤ 16 ∧ i = .int .i64 (k : Nat) ∧ (∃ L T, L.length = 16 ∧ L.take k = b.take k ∧ wr.heap[w1.heap.size]? = some (.cells (vals L) T (0, 0))) ∧ Below w1.heap.size w1 wr) (fun i _ => 16 - (intOf i).toNat)
      case atStart => exact ⟨0, by omega, rfl, HG7.out, HB1.out⟩
      case round =>
        clear HG7 HB1
        obtain ⟨k, hk, rfl, ⟨L, T, hL, htk, hrow⟩, hb⟩ := hrel
        have HBW := Lib.hid hb
        have HROW := Lib.hid hrow
        have HTK := Lib.hid htk
        have HL := Lib.hid hL
        clear hb hrow htk hL
        by_cases hlt : k < 16
        · obtain ⟨_, e, _, x1⟩ := H.out.under (below_call HBW.out HB.out) (Nat.le_refl _) k (by rw [HN.out]; omega)
          injection e with e
          subst e
          have x2 : wr.cell? ⟨w1.heap.size, k, none⟩ = some (.int .u8 (nth L k)) := (row_cell HROW.out k).trans (vals_get (by rw [HL.out]; exact hlt))
          have x3 : wr.frozen? ⟨w1.heap.size, k, none⟩ = false := row_free HROW.out k
          obtain ⟨x, hx⟩ : ∃ x, x = nth b k := ⟨_, rfl⟩
          rw [← hx] at x1
          have HX := Lib.hid hx
          clear hx
          have HR2 := Lib.hid (show (wr.setCell ⟨w1.heap.size, k, none⟩ (.int .u8 x)).heap[w1.heap.size]? = some (.cells (vals (L.set k x)) T (0, 0)) by
            rw [heap_setCell_same _ _ _ _ _ _ HROW.out]
            congr 2
            apply Array.ext'
            simp [vals, List.map_set])
          have HB2 := Lib.hid (show Below w1.heap.size w1 (wr.setCell ⟨w1.heap.size, k, none⟩ (.int .u8 x)) from HBW.out.setCell (Nat.le_refl _) _)
          go_wp2
          go_roundw
          case rel => exact ⟨k + 1, by omega, by go_num, ⟨_, T, by rw [List.length_set]; exact HL.out, take_set_of (by rw [HL.out]; exact hlt) (by rw [HN.out]; omega) HTK.out HX.out, HR2.out⟩, HB2.out⟩
          case measure => simp [intOf]; omega
        · obtain rfl : k = 16 := by omega
          obtain rfl : L = b.take 16 := by have := HTK.out; rwa [List.take_of_length_le (Nat.le_of_eq HL.out)] at this
          have HDR := Lib.hid (show ∀ w', Below wr.heap.size wr w' → BytesIn w' (some (ad.add 16)) (b.drop 16) from fun w' hb => by
            have h1 := ((H.out.under (below_call HBW.out HB.out) (Nat.le_refl _)).keep hb).sub 16 (b.drop 16).length
            rwa [List.take_length] at h1)
          have HL16 := Lib.hid (show (vals (b.take 16)).size = 16 by rw [vals_size]; exact HL.out)
          have HLD := Lib.hid (show (b.drop 16).length = n - 16 by rw [List.length_drop, HN.out])
          have HRW1 := Lib.hid (row_call (below_call HBW.out (Below.refl _ _)) HRW.out)
          have HCL := Lib.hid (show ∀ w', Below wr.heap.size wr w' → BytesIn w' (some ⟨w1.heap.size, 0, none⟩) (b.take 16) from fun w' hb => (BytesIn.vals 0 HROW.out (by rw [List.drop_zero]; exact List.take_length)).keep hb)
          go_wp2
          have hS := Own.start wr
          obtain ⟨M, hM⟩ : ∃ M, M = wr.heap.size := ⟨_, rfl⟩
          refine hide_frame fun t0 HT => ?_
          have HS : t0.size = 34 := by rw [HT]; rfl
          have h1 : t0[1]? = some (.slice (some ad) n c) := by rw [HT]; rfl
          have h4 : t0[4]? = some (.pointer (some ⟨w.heap.size + 1, 0, none⟩)) := by rw [HT]; rfl
          have h7 : t0[7]? = some (.pointer (some ⟨w1.heap.size, 0, none⟩)) := by rw [HT]; rfl
          clear HT
          refine wp_region_one 4 3 (by omega) (fun i => [30, 31, 32, 33].getD i 0) (fun i => [(· = .agg (vals (b.take 16))), (· = .slice (some ad) n c), (· = .slice (some (ad.add 16)) (n - 16) (c - 16)), (fun _ => True)].getD i (fun _ => True)) (fun x w' => Bts w' wr.heap.size x (b.drop 16)) (fun w' => Own wr [] w' ∧ M ≤ w'.heap.size)
            (by kernel_rfl) (by kernel_rfl) (slots_apart (by kernel_rfl)) (slots_lie (by rw [HS]; kernel_rfl)) ⟨hS.drew, Nat.le_of_eq hM⟩ (fun w1 w2 h b => ⟨h.1.keep b, Nat.le_trans h.2 b.size⟩) (fun x w1' w2' h hb => h.under hb) ?_ ?_ ?_
          · clear hS
            intro i o hi hnu ho
            have hc : i = 0 ∨ i = 1 ∨ i = 2 ∨ i = 3 := by omega
            rcases hc with rfl | rfl | rfl | rfl
            · obtain rfl := Option.some.inj ho
              refine ⟨rfl, fun a w' hS hold hin K hK => ?_⟩
              refine if_always rfl ?_
              exact op_ld_at 16 tDrop _ rfl rfl _ (eval_tmp ((hold 7 (slots_not (by kernel_rfl))).trans h7)) (vals (b.take 16)) HL16.out (cellsAt_bytes (HCL.out _ hS.1.1)) hK
            · obtain rfl := Option.some.inj ho
              refine ⟨rfl, fun a w' hS hold hin K hK => ?_⟩
              refine if_always rfl ?_
              exact op_move (V := (· = .slice (some ad) n c)) _ _ rfl rfl (eval_tmp ((hold 1 (slots_not (by kernel_rfl))).trans h1)) rfl hK
            · obtain rfl := Option.some.inj ho
              refine ⟨rfl, fun a w' hS hold hin K hK => ?_⟩
              obtain ⟨y1, x1, rfl⟩ := hin 1 rfl (by omega) (by omega)
              refine if_always rfl ?_
              exact op_from 5 (by kernel_rfl) (by kernel_rfl) _ _ rfl rfl ad n c 16 (eval_tmp x1) rfl (by omega) (by omega) hK
            · exact absurd rfl hnu
          · clear hS
            intro o ho
            obtain rfl := Option.some.inj ho
            refine ⟨rfl, fun a w' hS hold hin K hK => ?_⟩
            obtain ⟨y2, x2, rfl⟩ := hin 2 rfl (by omega) (by omega)
            refine if_always rfl ?_
            exact op_newv _ _ _ _ (b.drop 16) rfl rfl (eval_tmp x2) (by intro args w; kernel_rfl) (copyV_any _ (b.drop 16) (n - 16) _ _ HLD.out (HDR.out _ hS.1.1) (by omega)) (fun x w' h1 h2 => hK x w' (h1.low hS.1.1.size) h2)
          clear hS
          intro t1 V1 hs hold hout hu1 hS
          obtain ⟨x33, q33, u33⟩ := hu1
          replace q33 : t1[33]? = some x33 := q33
          replace HS := hs.trans HS
          replace hS := hS.1
          obtain ⟨_, q30, rfl⟩ : ∃ x, t1[30]? = some x ∧ x = (.agg (vals (b.take 16)) : Value) := hout 0 (by omega) (by omega)
          replace h1 := (hold 1 (slots_not (by kernel_rfl))).trans h1
          replace h4 := (hold 4 (slots_not (by kernel_rfl))).trans h4
          replace h7 := (hold 7 (slots_not (by kernel_rfl))).trans h7
          clear hold hout hs
          simp only [List.drop_succ_cons, List.drop_zero]
          obtain ⟨f, e0, hf⟩ := wash HS
          have f1 := hf 1 _ h1
          have f4 := hf 4 _ h4
          have f7 := hf 7 _ h7
          have f33 := hf 33 _ q33
          have f30 := hf 30 _ q30
          clear hf
          rw [e0.trans (show _ = #[f 0, f 1, f 2, f 3, f 4, f 5, f 6, f 7, f 8, f 9, f 10, f 11, f 12, f 13, f 14, f 15, f 16, f 17, f 18, f 19, f 20, f 21, f 22, f 23, f 24, f 25, f 26, f 27, f 28, f 29, f 30, f 31, f 32, f 33] from by kernel_rfl), f1, f4, f7, f33, f30]
          clear f1 f4 f7 f33 f30
          clear e0
          try dsimp only
          clear h1 h4 h7 q30 q33 hM HS t1 t0 M
          refine st_row rfl _ (.tmp 4) (.tmp 30) rfl (w.heap.size + 1) (vals (b.take 16)) rfl rfl _ _ (row_call hS.1 HRW1.out) 16 tDrop HL16.out rfl (vals_one _) ?_
          have HB2 := Lib.hid (below_setRow (below_call hS.1 (below_call HBW.out HB.out)) (show w.heap.size ≤ w.heap.size + 1 by omega) (vals (b.take 16)))
          have hlt2 := HRW1.out
          have HU := Lib.hid (Bts.setRow (g := w.heap.size + 1) (u33.low (Nat.le_trans HB.out.size HBW.out.size)) (fun x e h => by
            have h1 := (u33.lt x e).1
            have h2 := (Array.getElem?_eq_some_iff.1 hlt2).1
            omega) (vals (b.take 16)))
          have HSR := Lib.hid (setRow_heap _ _ _ (vals (b.take 16)) _ _ (row_call hS.1 HRW1.out))
          clear hS u33 hlt2
          go_wp2
          refine ret_row_tmp2 rfl (w.heap.size + 1) (vals (b.take 16)) _ rfl HSR.out 16 tDrop HL16.out rfl ?_
          exact ⟨HB2.out, _, rfl, HU.out⟩
    · rw [talkP_len hg (by rw [HN.out]; exact hl)]
      clear hg
      go_enter Tryd.func15, Tryd.ntmps15
      go_wp2_with first
        | (go_at_call 38; refine (checkR_yes HG.out _).mono ?_; rintro e w1 ⟨_, rfl, rfl, hb⟩; have hc := conf_cells (new2_0 ..) hb; have HRW := Lib.hid (row_call hb (new2_1 ..)); have HB := Lib.hid (show Below w.heap.size w w1 from below_call hb (by go_grown)); clear hb)
        | ((with_reducible refine guard_list ?_); refine held_st _ _ _ rfl ?_)
      refine st_row rfl _ (.tmp 4) (.tmp 19) rfl (w.heap.size + 1) (vals z16) rfl rfl _ _ HRW.out 16 tDrop rfl rfl (vals_one _) ?_
      go_wp2
      refine ret_row_tmp2 rfl (w.heap.size + 1) (vals z16) _ rfl (setRow_heap _ _ _ _ _ _ HRW.out) 16 tDrop rfl rfl ?_
      exact ⟨below_setRow HB.out (by omega) _, _, rfl, bts_nil _ _⟩
  · rw [talkP_bad hg]
    have HG := Lib.hid hg
    clear hg
    go_enter Tryd.func15, Tryd.ntmps15
    go_wp2_with first
      | (go_at_call 38; refine (checkR_no HG.out _).mono ?_; rintro e w1 ⟨_, rfl, rfl, hb⟩; have HRW := Lib.hid (row_call hb (new2_1 ..)); have HB := Lib.hid (show Below w.heap.size w w1 from below_call hb (by go_grown)); clear hb)
      | ((with_reducible refine guard_list ?_); refine held_st _ _ _ rfl ?_)
    refine st_row rfl _ (.tmp 4) (.tmp 12) rfl (w.heap.size + 1) (vals z16) rfl rfl _ _ HRW.out 16 tDrop rfl rfl (vals_one _) ?_
    go_wp2
    refine ret_row_tmp2 rfl (w.heap.size + 1) (vals z16) _ rfl (setRow_heap _ _ _ _ _ _ HRW.out) 16 tDrop rfl rfl ?_
    exact ⟨below_setRow HB.out (by omega) _, _, rfl, bts_nil _ _⟩
theorem zeros_all {b : List Int} {n : Nat} (hn : b.length = n) (h0 : 0 < n) (hb : nth b 0 = 0) : b = List.replicate n 0 ↔ zeros (b.drop 1) := by
  cases b with
  | nil => simp at hn; omega
  | cons x t =>
    have hx : x = 0 := by simpa [nth] using hb
    subst hx
    simp only [List.length_cons] at hn
    subst hn
    rw [List.replicate_succ]
    simp only [List.cons.injEq, true_and, List.drop_succ_cons, List.drop_zero, zeros]
    constructor
    · intro h j hj
      rw [h]
      simp [nth, List.getD_eq_getElem?_getD, List.getElem?_replicate]
      split <;> rfl
    · intro h
      apply List.ext_getElem (by simp)
      intro j hj _
      have := h j hj
      simp [nth, List.getD_eq_getElem?_getD, List.getElem?_eq_getElem hj] at this
      simp [this]
set_option maxHeartbeats 4000000 in
set_option maxRecDepth 100000 in
theorem parseReplyR_any (n0 n1 n2 n3 n4 n5 : Int) (p : Option Addr) (n c : Nat) (b : List Int) (w : World) (hn : b.length = n) (hbb : Byt b) (h : BytesIn w p b) (hc : n ≤ c) :
    Calls Tryd.prog 17 #[.agg #[.int .i64 n0, .int .i64 n1, .int .i64 n2, .int .i64 n3, .int .i64 n4, .int .i64 n5], .slice p n c] w (AnsB w (replyP (good n0 n1 n2 n3 n4 n5) n1 b).1 (replyP (good n0 n1 n2 n3 n4 n5) n1 b).2.1 (replyP (good n0 n1 n2 n3 n4 n5) n1 b).2.2) := by
  have H := Lib.hid h
  have HN := Lib.hid hn
  have HBB := Lib.hid hbb
  clear h hn hbb
  by_cases hg : good n0 n1 n2 n3 n4 n5 = true
  · have hmsg := good_msg hg
    have HG := Lib.hid hg
    by_cases hl : (n : Int) = 1 + n1
    · rw [replyP, if_pos hg, if_pos (by rw [HN.out]; exact hl)]
      obtain ⟨ad, rfl, _, hx0⟩ := H.out 0 (by rw [HN.out]; omega)
      have hb0 := HBB.out.nth 0
      obtain ⟨b0, hbe⟩ : ∃ b0, b0 = nth b 0 := ⟨_, rfl⟩
      rw [← hbe] at hx0 hb0 ⊢
      rw [show ad.add 0 = ad by simp [Addr.add]] at hx0
      have HX0 := Lib.hid (show ∀ w', Below w.heap.size w w' → w'.cell? ad = some (.int .u8 b0) from fun w' hb => by
        have h1 := H.out.keep hb 0 (by rw [HN.out]; omega)
        obtain ⟨_, e, _, h2⟩ := h1
        injection e with e
        subst e
        rw [show ad.add 0 = ad by simp [Addr.add]] at h2
        rw [h2, hbe])
      obtain ⟨t, ht⟩ : ∃ t, t = b.drop 1 := ⟨_, rfl⟩
      rw [← ht]
      have HLD := Lib.hid (show t.length = n - 1 by rw [ht, List.length_drop, HN.out])
      have HZA := Lib.hid (show b0 = 0 → (b = List.replicate n 0 ↔ zeros t) from fun h => by rw [ht]; exact zeros_all HN.out (by omega) (by rw [← hbe, h]))
      have HDR := Lib.hid (show ∀ w', Below w.heap.size w w' → BytesIn w' (some (ad.add 1)) t from fun w' hb => by
        have h1 := (H.out.keep hb).sub 1 (b.drop 1).length
        rw [List.take_length, ← ht] at h1
        exact h1)
      clear ht hx0 hbe
      obtain ⟨R, hR⟩ : ∃ R, R = (if b0 = 1 then (true, t, (0 : Int)) else if b0 = 0 ∧ zeros t then (false, t, 0) else (false, [], 203)) := ⟨_, rfl⟩
      rw [← hR]
      have HRR := Lib.hid hR
      have hcn : n ≤ c := hc
      have hmk : ∀ u : World, (Instr.makeSlice 26 (.int .i64 (1 + n1)) (.int .i64 (1 + n1))).run Tryd.prog u = .ok (.slice (some ⟨u.heap.size, 0, none⟩) n n) (u.alloc (.cells (vals (List.replicate n 0)) 5)) := fun u => by rw [← hl]; exact run_make_bts u n n (Nat.le_refl _) (by omega)
      clear hg hR
      go_enter Tryd.func17, Tryd.ntmps17
      by_cases h1 : b0 = 1
      · subst h1
        have hRe := HRR.out
        rw [if_pos rfl] at hRe
        subst hRe
        go_wp2_with (go_at_call 38; refine (checkR_yes HG.out _).mono ?_; rintro e wr ⟨_, rfl, rfl, hb⟩; have hc := conf_cells (heap_alloc_new w _) hb; have HB := Lib.hid (show Below w.heap.size w wr from below_call hb (by go_grown)); have hx0 := HX0.out _ HB.out; clear hb)
        have HX1 := Lib.hid (show ∀ w', Below wr.heap.size wr w' → w'.cell? (ad.add (0 * 1)) = some (.int .u8 1) from fun w' hb => by rw [show ad.add (0 * 1) = ad by simp [Addr.add]]; exact HX0.out _ (below_call hb HB.out))
        clear hc hx0
        have hS := Own.start wr
        obtain ⟨M, hM⟩ : ∃ M, M = wr.heap.size := ⟨_, rfl⟩
        refine hide_frame fun t0 HT => ?_
        have HS : t0.size = 41 := by rw [HT]; rfl
        have h1 : t0[1]? = some (.slice (some ad) n c) := by rw [HT]; rfl
        clear HT
        refine wp_region_one 7 6 (by omega) (fun i => [34, 35, 36, 37, 38, 39, 40].getD i 0) (fun i => [(· = .slice (some ad) n c), (· = .pointer (some (ad.add (0 * 1)))), (· = .int .u8 1), (· = .bool true), (· = .slice (some ad) n c), (· = .slice (some (ad.add 1)) (n - 1) (c - 1)), (fun _ => True)].getD i (fun _ => True)) (fun x w' => Bts w' wr.heap.size x t) (fun w' => Own wr [] w' ∧ M ≤ w'.heap.size)
          (by kernel_rfl) (by kernel_rfl) (slots_apart (by kernel_rfl)) (slots_lie (by rw [HS]; kernel_rfl)) ⟨hS.drew, Nat.le_of_eq hM⟩ (fun w1 w2 h b => ⟨h.1.keep b, Nat.le_trans h.2 b.size⟩) (fun x w1' w2' h hb => h.under hb) ?_ ?_ ?_
        · clear hS
          intro i o hi hnu ho
          have hc : i = 0 ∨ i = 1 ∨ i = 2 ∨ i = 3 ∨ i = 4 ∨ i = 5 ∨ i = 6 := by omega
          rcases hc with rfl | rfl | rfl | rfl | rfl | rfl | rfl
          · obtain rfl := Option.some.inj ho
            refine ⟨rfl, fun a w' hS hold hin K hK => ?_⟩
            refine if_always rfl ?_
            exact op_move (V := (· = .slice (some ad) n c)) _ _ rfl rfl (eval_tmp ((hold 1 (slots_not (by kernel_rfl))).trans h1)) rfl hK
          · obtain rfl := Option.some.inj ho
            refine ⟨rfl, fun a w' hS hold hin K hK => ?_⟩
            obtain ⟨y0, x0, rfl⟩ := hin 0 rfl (by omega) (by omega)
            refine if_always rfl ?_
            exact op_index 1 5 (by kernel_rfl) (by kernel_rfl) _ _ rfl rfl _ _ _ (eval_tmp x0) _ 0 rfl (by omega) hK
          · obtain rfl := Option.some.inj ho
            refine ⟨rfl, fun a w' hS hold hin K hK => ?_⟩
            obtain ⟨y1, x1, rfl⟩ := hin 1 rfl (by omega) (by omega)
            refine if_always rfl ?_
            exact op_cell tB1 _ (ad.add (0 * 1)) rfl rfl (eval_tmp x1) (.int .u8 1) (HX1.out _ hS.1.1) hK
          · obtain rfl := Option.some.inj ho
            refine ⟨rfl, fun a w' hS hold hin K hK => ?_⟩
            obtain ⟨y2, x2, rfl⟩ := hin 2 rfl (by omega) (by omega)
            refine if_always rfl ?_
            exact op_bin (V := (· = .bool true)) _ _ _ _ _ _ _ (.bool true) rfl rfl (eval_tmp x2) rfl (fun w => eql8 (by decide) w) rfl hK
          · obtain rfl := Option.some.inj ho
            refine ⟨rfl, fun a w' hS hold hin K hK => ?_⟩
            refine if_always rfl ?_
            exact op_move (V := (· = .slice (some ad) n c)) _ _ rfl rfl (eval_tmp ((hold 1 (slots_not (by kernel_rfl))).trans h1)) rfl hK
          · obtain rfl := Option.some.inj ho
            refine ⟨rfl, fun a w' hS hold hin K hK => ?_⟩
            obtain ⟨y4, x4, rfl⟩ := hin 4 rfl (by omega) (by omega)
            refine if_always rfl ?_
            exact op_from 5 (by kernel_rfl) (by kernel_rfl) _ _ rfl rfl ad n c 1 (eval_tmp x4) rfl (by omega) (by omega) hK
          · exact absurd rfl hnu
        · clear hS
          intro o ho
          obtain rfl := Option.some.inj ho
          refine ⟨rfl, fun a w' hS hold hin K hK => ?_⟩
          obtain ⟨y5, x5, rfl⟩ := hin 5 rfl (by omega) (by omega)
          refine if_always rfl ?_
          exact op_newv _ _ _ _ t rfl rfl (eval_tmp x5) (by intro args w; kernel_rfl) (copyV_any _ t (n - 1) _ _ HLD.out (HDR.out _ (below_call hS.1.1 HB.out)) (by omega)) (fun x w' h1 h2 => hK x w' (h1.low hS.1.1.size) h2)
        clear hS
        intro t1 V1 hs hold hout hu1 hS
        obtain ⟨x40, q40, u40⟩ := hu1
        replace q40 : t1[40]? = some x40 := q40
        replace HS := hs.trans HS
        replace hS := hS.1
        obtain ⟨_, q37, rfl⟩ : ∃ x, t1[37]? = some x ∧ x = (.bool true : Value) := hout 3 (by omega) (by omega)
        replace h1 := (hold 1 (slots_not (by kernel_rfl))).trans h1
        clear hold hout hs
        simp only [List.drop_succ_cons, List.drop_zero]
        obtain ⟨f, e0, hf⟩ := wash HS
        have f1 := hf 1 _ h1
        have f40 := hf 40 _ q40
        have f37 := hf 37 _ q37
        clear hf
        rw [e0.trans (show _ = #[f 0, f 1, f 2, f 3, f 4, f 5, f 6, f 7, f 8, f 9, f 10, f 11, f 12, f 13, f 14, f 15, f 16, f 17, f 18, f 19, f 20, f 21, f 22, f 23, f 24, f 25, f 26, f 27, f 28, f 29, f 30, f 31, f 32, f 33, f 34, f 35, f 36, f 37, f 38, f 39, f 40] from by kernel_rfl), f1, f40, f37]
        clear f1 f40 f37
        clear e0
        try dsimp only
        clear h1 q37 q40 hM HS t1 t0 M
        have HU := Lib.hid (u40.low HB.out.size)
        have HB2 := Lib.hid (below_call hS.1 HB.out)
        clear hS u40
        go_wp2
        exact ⟨rfl, .tuple #[.bool true, x40, .int .i64 0], by kernel_rfl, HB2.out, x40, rfl, HU.out⟩
      · by_cases h0 : b0 = 0
        · subst h0
          have hRe := HRR.out
          rw [if_neg (by decide)] at hRe
          by_cases hz : zeros t
          · rw [if_pos ⟨rfl, hz⟩] at hRe
            subst hRe
            have HZ := Lib.hid ((HZA.out rfl).2 hz)
            go_wp2_with first
              | (go_at_call 38; refine (checkR_yes HG.out _).mono ?_; rintro e w1 ⟨_, rfl, rfl, hb⟩; have hc := conf_cells (heap_alloc_new w _) hb; have HB1 := Lib.hid (show Below w.heap.size w w1 from below_call hb (by go_grown)); have hx0 := HX0.out _ HB1.out; clear hb)
              | (go_at_call 21; refine (eqBytes_any _ _ b (List.replicate n 0) n n _ _ _ HN.out (by simp) (H.out.keep (HB1.out.alloc HB1.out.size _)) (BytesIn.vals 0 (heap_alloc_new w1 _) (by simp)) (by omega)).mono ?_; rintro e wr ⟨_, rfl, rfl, hb⟩; rw [decide_eq_true HZ.out]; have HB := Lib.hid (below_call hb (HB1.out.alloc HB1.out.size _)); clear hb)
            have HX1 := Lib.hid (show ∀ w', Below wr.heap.size wr w' → w'.cell? (ad.add (0 * 1)) = some (.int .u8 0) from fun w' hb => by rw [show ad.add (0 * 1) = ad by simp [Addr.add]]; exact HX0.out _ (below_call hb HB.out))
            clear hc hx0 HB1
            have hS := Own.start wr
            obtain ⟨M, hM⟩ : ∃ M, M = wr.heap.size := ⟨_, rfl⟩
            refine hide_frame fun t0 HT => ?_
            have HS : t0.size = 41 := by rw [HT]; rfl
            have h1 : t0[1]? = some (.slice (some ad) n c) := by rw [HT]; rfl
            clear HT
            refine wp_region_one 7 6 (by omega) (fun i => [34, 35, 36, 37, 38, 39, 40].getD i 0) (fun i => [(· = .slice (some ad) n c), (· = .pointer (some (ad.add (0 * 1)))), (· = .int .u8 0), (· = .bool false), (· = .slice (some ad) n c), (· = .slice (some (ad.add 1)) (n - 1) (c - 1)), (fun _ => True)].getD i (fun _ => True)) (fun x w' => Bts w' wr.heap.size x t) (fun w' => Own wr [] w' ∧ M ≤ w'.heap.size)
              (by kernel_rfl) (by kernel_rfl) (slots_apart (by kernel_rfl)) (slots_lie (by rw [HS]; kernel_rfl)) ⟨hS.drew, Nat.le_of_eq hM⟩ (fun w1 w2 h b => ⟨h.1.keep b, Nat.le_trans h.2 b.size⟩) (fun x w1' w2' h hb => h.under hb) ?_ ?_ ?_
            · clear hS
              intro i o hi hnu ho
              have hc : i = 0 ∨ i = 1 ∨ i = 2 ∨ i = 3 ∨ i = 4 ∨ i = 5 ∨ i = 6 := by omega
              rcases hc with rfl | rfl | rfl | rfl | rfl | rfl | rfl
              · obtain rfl := Option.some.inj ho
                refine ⟨rfl, fun a w' hS hold hin K hK => ?_⟩
                refine if_always rfl ?_
                exact op_move (V := (· = .slice (some ad) n c)) _ _ rfl rfl (eval_tmp ((hold 1 (slots_not (by kernel_rfl))).trans h1)) rfl hK
              · obtain rfl := Option.some.inj ho
                refine ⟨rfl, fun a w' hS hold hin K hK => ?_⟩
                obtain ⟨y0, x0, rfl⟩ := hin 0 rfl (by omega) (by omega)
                refine if_always rfl ?_
                exact op_index 1 5 (by kernel_rfl) (by kernel_rfl) _ _ rfl rfl _ _ _ (eval_tmp x0) _ 0 rfl (by omega) hK
              · obtain rfl := Option.some.inj ho
                refine ⟨rfl, fun a w' hS hold hin K hK => ?_⟩
                obtain ⟨y1, x1, rfl⟩ := hin 1 rfl (by omega) (by omega)
                refine if_always rfl ?_
                exact op_cell tB1 _ (ad.add (0 * 1)) rfl rfl (eval_tmp x1) (.int .u8 0) (HX1.out _ hS.1.1) hK
              · obtain rfl := Option.some.inj ho
                refine ⟨rfl, fun a w' hS hold hin K hK => ?_⟩
                obtain ⟨y2, x2, rfl⟩ := hin 2 rfl (by omega) (by omega)
                refine if_always rfl ?_
                exact op_bin (V := (· = .bool false)) _ _ _ _ _ _ _ (.bool false) rfl rfl (eval_tmp x2) rfl (fun w => eql8 (by decide) w) rfl hK
              · obtain rfl := Option.some.inj ho
                refine ⟨rfl, fun a w' hS hold hin K hK => ?_⟩
                refine if_always rfl ?_
                exact op_move (V := (· = .slice (some ad) n c)) _ _ rfl rfl (eval_tmp ((hold 1 (slots_not (by kernel_rfl))).trans h1)) rfl hK
              · obtain rfl := Option.some.inj ho
                refine ⟨rfl, fun a w' hS hold hin K hK => ?_⟩
                obtain ⟨y4, x4, rfl⟩ := hin 4 rfl (by omega) (by omega)
                refine if_always rfl ?_
                exact op_from 5 (by kernel_rfl) (by kernel_rfl) _ _ rfl rfl ad n c 1 (eval_tmp x4) rfl (by omega) (by omega) hK
              · exact absurd rfl hnu
            · clear hS
              intro o ho
              obtain rfl := Option.some.inj ho
              refine ⟨rfl, fun a w' hS hold hin K hK => ?_⟩
              obtain ⟨y5, x5, rfl⟩ := hin 5 rfl (by omega) (by omega)
              refine if_always rfl ?_
              exact op_newv _ _ _ _ t rfl rfl (eval_tmp x5) (by intro args w; kernel_rfl) (copyV_any _ t (n - 1) _ _ HLD.out (HDR.out _ (below_call hS.1.1 HB.out)) (by omega)) (fun x w' h1 h2 => hK x w' (h1.low hS.1.1.size) h2)
            clear hS
            intro t1 V1 hs hold hout hu1 hS
            obtain ⟨x40, q40, u40⟩ := hu1
            replace q40 : t1[40]? = some x40 := q40
            replace HS := hs.trans HS
            replace hS := hS.1
            obtain ⟨_, q37, rfl⟩ : ∃ x, t1[37]? = some x ∧ x = (.bool false : Value) := hout 3 (by omega) (by omega)
            replace h1 := (hold 1 (slots_not (by kernel_rfl))).trans h1
            clear hold hout hs
            simp only [List.drop_succ_cons, List.drop_zero]
            obtain ⟨f, e0, hf⟩ := wash HS
            have f1 := hf 1 _ h1
            have f40 := hf 40 _ q40
            have f37 := hf 37 _ q37
            clear hf
            rw [e0.trans (show _ = #[f 0, f 1, f 2, f 3, f 4, f 5, f 6, f 7, f 8, f 9, f 10, f 11, f 12, f 13, f 14, f 15, f 16, f 17, f 18, f 19, f 20, f 21, f 22, f 23, f 24, f 25, f 26, f 27, f 28, f 29, f 30, f 31, f 32, f 33, f 34, f 35, f 36, f 37, f 38, f 39, f 40] from by kernel_rfl), f1, f40, f37]
            clear f1 f40 f37
            clear e0
            try dsimp only
            clear h1 q37 q40 hM HS t1 t0 M
            have HU := Lib.hid (u40.low HB.out.size)
            have HB2 := Lib.hid (below_call hS.1 HB.out)
            clear hS u40
            go_wp2
            exact ⟨rfl, .tuple #[.bool false, x40, .int .i64 0], by kernel_rfl, HB2.out, x40, rfl, HU.out⟩
          · rw [if_neg (fun h => hz h.2)] at hRe
            subst hRe
            have HZ := Lib.hid (show ¬ b = List.replicate n 0 from fun h => hz ((HZA.out rfl).1 h))
            go_wp2_with first
              | (go_at_call 38; refine (checkR_yes HG.out _).mono ?_; rintro e w1 ⟨_, rfl, rfl, hb⟩; have hc := conf_cells (heap_alloc_new w _) hb; have HB1 := Lib.hid (show Below w.heap.size w w1 from below_call hb (by go_grown)); have hx0 := HX0.out _ HB1.out; clear hb)
              | (go_at_call 21; refine (eqBytes_any _ _ b (List.replicate n 0) n n _ _ _ HN.out (by simp) (H.out.keep (HB1.out.alloc HB1.out.size _)) (BytesIn.vals 0 (heap_alloc_new w1 _) (by simp)) (by omega)).mono ?_; rintro e wr ⟨_, rfl, rfl, hb⟩; rw [decide_eq_false HZ.out]; have HB := Lib.hid (below_call hb (HB1.out.alloc HB1.out.size _)); clear hb)
            exact ⟨rfl, .tuple #[.bool false, .slice none 0 0, .int .i64 203], by kernel_rfl, HB.out, _, rfl, bts_nil _ _⟩
        · have hRe := HRR.out
          rw [if_neg h1, if_neg (fun h => h0 h.1)] at hRe
          subst hRe
          have h2 : 1 < b0 := by omega
          go_wp2_with (go_at_call 38; refine (checkR_yes HG.out _).mono ?_; rintro e wr ⟨_, rfl, rfl, hb⟩; have hc := conf_cells (heap_alloc_new w _) hb; have HB := Lib.hid (show Below w.heap.size w wr from below_call hb (by go_grown)); have hx0 := HX0.out _ HB.out; clear hb)
          exact ⟨rfl, .tuple #[.bool false, .slice none 0 0, .int .i64 203], by kernel_rfl, HB.out, _, rfl, bts_nil _ _⟩
    · rw [replyP, if_pos hg, if_neg (by rw [HN.out]; exact hl)]
      clear hg
      go_enter Tryd.func17, Tryd.ntmps17
      go_wp2_with (go_at_call 38; refine (checkR_yes HG.out _).mono ?_; rintro e w1 ⟨_, rfl, rfl, hb⟩; have hc := conf_cells (heap_alloc_new w _) hb; have HB := Lib.hid (show Below w.heap.size w w1 from below_call hb (by go_grown)); clear hb)
      exact ⟨rfl, .tuple #[.bool false, .slice none 0 0, .int .i64 4], by kernel_rfl, HB.out, _, rfl, bts_nil _ _⟩
  · rw [replyP, if_neg hg]
    have HG := Lib.hid hg
    clear hg
    go_enter Tryd.func17, Tryd.ntmps17
    go_wp2_with (go_at_call 38; refine (checkR_no HG.out _).mono ?_; rintro e w1 ⟨_, rfl, rfl, hb⟩; have HB := Lib.hid (show Below w.heap.size w w1 from below_call hb (by go_grown)); clear hb)
    exact ⟨rfl, .tuple #[.bool false, .slice none 0 0, .int .i64 200], by kernel_rfl, HB.out, _, rfl, bts_nil _ _⟩
end Go.Proofs.YtmochmpamgfboaaDoor
