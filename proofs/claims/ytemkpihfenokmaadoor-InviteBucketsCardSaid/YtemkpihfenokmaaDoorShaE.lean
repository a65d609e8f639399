/- The reference's Round: a block of 64 bytes goes into the state. Condition: bytes. -/
import Derived.Test.YtemkpihfenokmaaDoorShaD
namespace Go.Proofs.YtemkpihfenokmaaDoor
open Go.RowKit
set_option maxHeartbeats 8000000 in
set_option maxRecDepth 100000 in
theorem roundR_any (st : List Int) (p : Option Addr) (b : List Int) (n c i : Nat) (w : World) (hs : st.length = 8) (hn : b.length = n) (hby : Byt b) (hbi : BytesIn w p b) (hi : i + 64 ≤ n) (hm : n ≤ 281474976710656) :
    Calls Tryd.prog 19 #[.agg (words st), .slice p n c, .int .i64 (i : Nat)] w (fun e w' => e = .returned (.agg (words (blockL st ((b.drop i).take 64)))) ∧ Below w.heap.size w w') := by
  obtain ⟨s0, s1, s2, s3, s4, s5, s6, s7, rfl⟩ := eight hs
  change Calls Tryd.prog 19 #[.agg #[.int .u32 s0, .int .u32 s1, .int .u32 s2, .int .u32 s3, .int .u32 s4, .int .u32 s5, .int .u32 s6, .int .u32 s7], .slice p n c, .int .i64 (i : Nat)] w _
  obtain ⟨st, hst⟩ : ∃ st, st = [s0, s1, s2, s3, s4, s5, s6, s7] := ⟨_, rfl⟩
  rw [← hst] at hs ⊢
  have HS := Lib.hid hs
  obtain ⟨bk, hbk⟩ : ∃ bk, bk = (b.drop i).take 64 := ⟨_, rfl⟩
  rw [← hbk]
  have HW0 := Lib.hid (show ∀ k, k < 16 → wordB b (i + 4 * k) = wordAt bk k from fun k hk => by rw [hbk]; exact wordB_at b i k hk)
  have HWC := Lib.hid (show ∀ w' k, k < 16 → Below w.heap.size w w' → Calls Tryd.prog 24 #[.slice p n c, .int .i64 ((i + 4 * k : Nat) : Int)] w' (fun e w'' => e = .returned (.int .u32 (wordAt bk k)) ∧ Below w'.heap.size w' w'') from fun w' k hk h => by
    have h1 := word_any p b n c (i + 4 * k) w' hn hby (hbi.under h (Nat.le_refl _)) (by omega) hm
    rwa [HW0.out k hk] at h1)
  have HSTR := Lib.hid (show #[Value.int .u32 s0, .int .u32 s1, .int .u32 s2, .int .u32 s3, .int .u32 s4, .int .u32 s5, .int .u32 s6, .int .u32 s7] = words st by rw [hst]; rfl)
  obtain ⟨W3, hW3⟩ : ∃ W3, W3 = ((w.alloc (.cells #[.int .u32 s0, .int .u32 s1, .int .u32 s2, .int .u32 s3, .int .u32 s4, .int .u32 s5, .int .u32 s6, .int .u32 s7] 50)).alloc (.cells (words (List.replicate 8 0)) 50)).alloc (.cells (words (List.replicate 64 0)) 59) := ⟨_, rfl⟩
  have HRH := Lib.hid (show W3.heap[w.heap.size]? = some (.cells (words st) 50 (0, 0)) by
    rw [hW3, ← HSTR.out]
    exact row_call ((Below.refl _ _).alloc (Nat.le_refl _) _) (heap_alloc2_old w _ _))
  have HRR := Lib.hid (show W3.heap[w.heap.size + 1]? = some (.cells (words (List.replicate 8 0)) 50 (0, 0)) by
    rw [hW3]
    exact row_call ((Below.refl _ _).alloc (Nat.le_refl _) _) (heap_alloc2_new w _ _))
  have HRW := Lib.hid (show W3.heap[w.heap.size + 1 + 1]? = some (.cells (words (List.replicate 64 0)) 59 (0, 0)) by
    rw [hW3]
    have h1 := heap_alloc_new ((w.alloc (.cells #[.int .u32 s0, .int .u32 s1, .int .u32 s2, .int .u32 s3, .int .u32 s4, .int .u32 s5, .int .u32 s6, .int .u32 s7] 50)).alloc (.cells (words (List.replicate 8 0)) 50)) (.cells (words (List.replicate 64 0)) 59)
    rwa [World.size_alloc, World.size_alloc] at h1)
  have HB3 := Lib.hid (show Below w.heap.size w W3 by
    rw [hW3]
    exact (((Below.refl w.heap.size w).alloc (Nat.le_refl _) _).alloc (by simp) _).alloc (by simp; omega) _)
  have HSP := Lib.hid hm
  clear hst hbk hn hby hbi hs
  go_enter Tryd.func19, Tryd.ntmps19
  go_wp2_with fail
  go_loopw [8] (fun j wr => ∃ k : Nat, k ≤ 16 ∧ j = .int .i64 (k : Nat) ∧ wr.heap[w.heap.size]? = some (.cells (words st) 50 (0, 0)) ∧ wr.heap[w.heap.size + 1]? = some (.cells (words (List.replicate 8 0)) 50 (0, 0)) ∧ wr.heap[w.heap.size + 1 + 1]? = some (.cells (words ((List.range k).map (wordAt bk) ++ List.replicate (64 - k) 0)) 59 (0, 0)) ∧ Below w.heap.size w wr) (fun j _ => 16 - (intOf j).toNat)
  case atStart => exact ⟨0, by omega, rfl, by have h1 := HRH.out; rwa [hW3] at h1, by have h1 := HRR.out; rwa [hW3] at h1, by have h1 := HRW.out; rwa [hW3] at h1, by have h1 := HB3.out; rwa [hW3] at h1⟩
  case round =>
    clear HRH HRR HRW HB3 hW3
    obtain ⟨k, hk, rfl, hr1, hr2, hr3, hb⟩ := hrel
    have HRH := Lib.hid hr1
    have HRR := Lib.hid hr2
    have HRW := Lib.hid hr3
    have HB := Lib.hid hb
    clear hr1 hr2 hr3 hb
    by_cases hlt : k < 16
    · have HLW := Lib.hid (show ((List.range k).map (wordAt bk) ++ List.replicate (64 - k) 0).length = 64 by simp; omega)
      have qk : 0 ≤ (k : Int) := by omega
      have lk : (k : Int) < 64 := by omega
      have HIX := Lib.hid (show (i : Int) + 4 * (k : Int) = ((i + 4 * k : Nat) : Int) by omega)
      go_wp2_with (go_at_call 24; rw [HIX.out]; refine (HWC.out _ k hlt HB.out).mono ?_; rintro e w5 ⟨rfl, hb⟩; replace HRH := Lib.hid (row_call hb HRH.out); replace HRR := Lib.hid (row_call hb HRR.out); replace HRW := Lib.hid (row_call hb HRW.out); replace HB := Lib.hid (below_call hb HB.out); clear hb; have x2 := (row_cell HRW.out k).trans (words_get (by rw [HLW.out]; omega)); have x3 := row_free HRW.out k; generalize nth ((List.range k).map (wordAt bk) ++ List.replicate (64 - k) 0) k = old at x2)
      have HRH' := Lib.hid ((heap_setCell_other w5 ⟨w.heap.size + 1 + 1, k, none⟩ w.heap.size (.int .u32 (wordAt bk k)) (by show w.heap.size ≠ w.heap.size + 1 + 1; omega)).trans HRH.out)
      have HRR' := Lib.hid ((heap_setCell_other w5 ⟨w.heap.size + 1 + 1, k, none⟩ (w.heap.size + 1) (.int .u32 (wordAt bk k)) (by show w.heap.size + 1 ≠ w.heap.size + 1 + 1; omega)).trans HRR.out)
      have HRW' := Lib.hid (show (w5.setCell ⟨w.heap.size + 1 + 1, k, none⟩ (.int .u32 (wordAt bk k))).heap[w.heap.size + 1 + 1]? = some (.cells (words ((List.range (k + 1)).map (wordAt bk) ++ List.replicate (64 - (k + 1)) 0)) 59 (0, 0)) by
        rw [heap_setCell_same _ _ _ _ _ _ HRW.out, ← fill_set (f := wordAt bk) (show k < 64 by omega), ← words_set])
      have HB' := Lib.hid (HB.out.setCell (p := ⟨w.heap.size + 1 + 1, k, none⟩) (show w.heap.size ≤ w.heap.size + 1 + 1 by omega) (.int .u32 (wordAt bk k)))
      go_roundw
      case rel => exact ⟨k + 1, by omega, by go_num, HRH'.out, HRR'.out, HRW'.out, HB'.out⟩
      case measure => simp [intOf]; omega
    · obtain rfl : k = 16 := by omega
      clear hlt hk HWC HW0
      go_wp2_with fail
      go_loopw [9] (fun j wr => ∃ t1 : Nat, 16 ≤ t1 ∧ t1 ≤ 64 ∧ j = .int .i64 (t1 : Nat) ∧ wr.heap[w.heap.size]? = some (.cells (words st) 50 (0, 0)) ∧ wr.heap[w.heap.size + 1]? = some (.cells (words (List.replicate 8 0)) 50 (0, 0)) ∧ wr.heap[w.heap.size + 1 + 1]? = some (.cells (words (schedL (wordsOf bk) (t1 - 16) ++ List.replicate (64 - t1) 0)) 59 (0, 0)) ∧ Below w.heap.size w wr) (fun j _ => 64 - (intOf j).toNat)
      case atStart => exact ⟨16, by omega, by omega, rfl, HRH.out, HRR.out, HRW.out, HB.out⟩
      case round =>
        clear HRH HRR HRW HB
        obtain ⟨t1, h16, h64, rfl, hr1, hr2, hr3, hb⟩ := hrel
        have HRH := Lib.hid hr1
        have HRR := Lib.hid hr2
        have HRW := Lib.hid hr3
        have HB := Lib.hid hb
        clear hr1 hr2 hr3 hb
        by_cases hlt : t1 < 64
        · have HSL := Lib.hid (show (schedL (wordsOf bk) (t1 - 16)).length = t1 by rw [schedL_len, wordsOf, List.length_map, List.length_range]; omega)
          have HST := Lib.hid (schedL_step (wordsOf bk) h16)
          generalize schedL (wordsOf bk) (t1 - 16) = S at *
          have HLW := Lib.hid (show (S ++ List.replicate (64 - t1) 0).length = 64 by rw [List.length_append, HSL.out, List.length_replicate]; omega)
          have e15 : IntKind.i64.wrap ((t1 : Int) - 15) = (t1 : Int) - 15 := IntWalk.i64_in _ (by omega)
          have n15 : ((t1 : Int) - 15).toNat = t1 - 15 := by omega
          have q15 : 0 ≤ (t1 : Int) - 15 := by omega
          have l15 : (t1 : Int) - 15 < 64 := by omega
          have e2 : IntKind.i64.wrap ((t1 : Int) - 2) = (t1 : Int) - 2 := IntWalk.i64_in _ (by omega)
          have n2 : ((t1 : Int) - 2).toNat = t1 - 2 := by omega
          have q2 : 0 ≤ (t1 : Int) - 2 := by omega
          have l2 : (t1 : Int) - 2 < 64 := by omega
          have e16 : IntKind.i64.wrap ((t1 : Int) - 16) = (t1 : Int) - 16 := IntWalk.i64_in _ (by omega)
          have n16 : ((t1 : Int) - 16).toNat = t1 - 16 := by omega
          have q16 : 0 ≤ (t1 : Int) - 16 := by omega
          have l16 : (t1 : Int) - 16 < 64 := by omega
          have e7 : IntKind.i64.wrap ((t1 : Int) - 7) = (t1 : Int) - 7 := IntWalk.i64_in _ (by omega)
          have n7 : ((t1 : Int) - 7).toNat = t1 - 7 := by omega
          have q7 : 0 ≤ (t1 : Int) - 7 := by omega
          have l7 : (t1 : Int) - 7 < 64 := by omega
          have y15 := (row_cell HRW.out (t1 - 15)).trans ((words_get (by rw [HLW.out]; omega)).trans (by rw [nth_left (by rw [HSL.out]; omega)]))
          have y2 := (row_cell HRW.out (t1 - 2)).trans ((words_get (by rw [HLW.out]; omega)).trans (by rw [nth_left (by rw [HSL.out]; omega)]))
          have qk : 0 ≤ (t1 : Int) := by omega
          have lk : (t1 : Int) < 64 := by omega
          have f16 : (16 : Int) ≤ t1 := by omega
          have f7 : (7 : Int) ≤ t1 := by omega
          have h80 : (t1 : Int) < 80 := by omega
          have h71 : (t1 : Int) < 71 := by omega
          have h80' : (t1 : Int) < 64 + 16 := by omega
          have h71' : (t1 : Int) < 64 + 7 := by omega
          have T7 : True := trivial
          have T18 : True := trivial
          have T17 : True := trivial
          have T19 : True := trivial
          go_wp2_with first
            | (go_at_call 25; refine ((fun (_ : True) => rotR_7 _ _) T7).mono ?_; rintro e w2_7 ⟨rfl, hb⟩; replace HRH := Lib.hid (row_call hb HRH.out); replace HRR := Lib.hid (row_call hb HRR.out); replace HRW := Lib.hid (row_call hb HRW.out); replace HB := Lib.hid (below_call hb HB.out); clear y15 y2 hb T7)
            | (go_at_call 25; refine ((fun (_ : True) => rotR_18 _ _) T18).mono ?_; rintro e w2_18 ⟨rfl, hb⟩; replace HRH := Lib.hid (row_call hb HRH.out); replace HRR := Lib.hid (row_call hb HRR.out); replace HRW := Lib.hid (row_call hb HRW.out); replace HB := Lib.hid (below_call hb HB.out); clear hb T18)
            | (go_at_call 25; refine ((fun (_ : True) => rotR_17 _ _) T17).mono ?_; rintro e w2_17 ⟨rfl, hb⟩; replace HRH := Lib.hid (row_call hb HRH.out); replace HRR := Lib.hid (row_call hb HRR.out); replace HRW := Lib.hid (row_call hb HRW.out); replace HB := Lib.hid (below_call hb HB.out); clear hb T17)
            | (go_at_call 25; refine ((fun (_ : True) => rotR_19 _ _) T19).mono ?_; rintro e w2 ⟨rfl, hb⟩; replace HRH := Lib.hid (row_call hb HRH.out); replace HRR := Lib.hid (row_call hb HRR.out); replace HRW := Lib.hid (row_call hb HRW.out); replace HB := Lib.hid (below_call hb HB.out); clear hb T19)
          have y16 := (row_cell HRW.out (t1 - 16)).trans ((words_get (by rw [HLW.out]; omega)).trans (by rw [nth_left (by rw [HSL.out]; omega)]))
          have y7 := (row_cell HRW.out (t1 - 7)).trans ((words_get (by rw [HLW.out]; omega)).trans (by rw [nth_left (by rw [HSL.out]; omega)]))
          have x2 := (row_cell HRW.out t1).trans (words_get (by rw [HLW.out]; omega))
          have x3 := row_free HRW.out t1
          generalize nth (S ++ List.replicate (64 - t1) 0) t1 = old at x2
          go_still_tail 15, (by kernel_rfl)
          change wpList _ _ _ _ _ (World.drew _)
          have HRH' := Lib.hid ((heap_setCell_other w2 ⟨w.heap.size + 1 + 1, t1, none⟩ w.heap.size (.int .u32 ((nth S (t1 - 16) + sig0 (nth S (t1 - 15)) + nth S (t1 - 7) + sig1 (nth S (t1 - 2))) % 4294967296)) (by show w.heap.size ≠ w.heap.size + 1 + 1; omega)).trans HRH.out)
          have HRR' := Lib.hid ((heap_setCell_other w2 ⟨w.heap.size + 1 + 1, t1, none⟩ (w.heap.size + 1) (.int .u32 ((nth S (t1 - 16) + sig0 (nth S (t1 - 15)) + nth S (t1 - 7) + sig1 (nth S (t1 - 2))) % 4294967296)) (by show w.heap.size + 1 ≠ w.heap.size + 1 + 1; omega)).trans HRR.out)
          have HRW' := Lib.hid (show (w2.setCell ⟨w.heap.size + 1 + 1, t1, none⟩ (.int .u32 ((nth S (t1 - 16) + sig0 (nth S (t1 - 15)) + nth S (t1 - 7) + sig1 (nth S (t1 - 2))) % 4294967296))).heap[w.heap.size + 1 + 1]? = some (.cells (words (schedL (wordsOf bk) (t1 + 1 - 16) ++ List.replicate (64 - (t1 + 1)) 0)) 59 (0, 0)) by
            rw [heap_setCell_same _ _ _ _ _ _ HRW.out, HST.out, ← set_right _ HSL.out hlt, ← words_set])
          have HB' := Lib.hid (HB.out.setCell (p := ⟨w.heap.size + 1 + 1, t1, none⟩) (show w.heap.size ≤ w.heap.size + 1 + 1 by omega) (.int .u32 ((nth S (t1 - 16) + sig0 (nth S (t1 - 15)) + nth S (t1 - 7) + sig1 (nth S (t1 - 2))) % 4294967296)))
          go_wp2_with fail
          go_roundw
          case rel =>
            repeat apply Exists.intro
            refine ⟨⟨t1 + 1, by omega, by omega, ?_, HRH'.out, HRR'.out, HRW'.out, HB'.out.drew⟩, rfl⟩
            go_num
          case measure => simp [intOf]; omega
        · obtain rfl : t1 = 64 := by omega
          clear hlt h16 h64
          obtain ⟨SL, hSL⟩ : ∃ SL, SL = schedL (wordsOf bk) 48 := ⟨_, rfl⟩
          have HSLE := Lib.hid hSL
          have HSL := Lib.hid (show SL.length = 64 by rw [hSL, schedL_len, wordsOf, List.length_map, List.length_range])
          replace HRW := Lib.hid (show wr.heap[w.heap.size + 1 + 1]? = some (.cells (words SL) 59 (0, 0)) by have h1 := HRW.out; rw [show 64 - 64 = 0 from rfl, List.replicate_zero, List.append_nil, show 64 - 16 = 48 from rfl, ← hSL] at h1; exact h1)
          clear hSL
          have HWS := Lib.hid (show (words st).size = 8 by rw [words_size, HS.out])
          go_wp2_with first
            | (go_at_call 26; refine (keys_any _).mono ?_; rintro e w6 ⟨rfl, hb⟩; replace HRH := Lib.hid (row_call hb HRH.out); replace HRR := Lib.hid (row_call hb HRR.out); replace HRW := Lib.hid (row_call hb HRW.out); replace HB := Lib.hid (below_call hb HB.out); clear hb)
            | ((with_reducible refine guard_list ?_); refine held_st 59 _ _ rfl ?_)
          refine st_row rfl 59 _ _ rfl w6.heap.size (words K64) rfl rfl _ _ (heap_alloc_new w6 _) 64 tW64 rfl rfl (words_one _) ?_
          rw [World.setRow_alloc_new]
          have HK0 := Lib.hid (show w.heap.size + 1 + 1 < w6.heap.size from (Array.getElem?_eq_some_iff.1 HRW.out).1)
          have hb := (Below.refl w6.heap.size w6).alloc (Nat.le_refl _) (.cells (words K64) 59)
          obtain ⟨gk, hgk⟩ : ∃ gk, gk = w6.heap.size := ⟨_, rfl⟩
          obtain ⟨wk, hwk⟩ : ∃ wk, wk = w6.alloc (.cells (words K64) 59) := ⟨_, rfl⟩
          rw [← hwk] at hb
          replace HRH := Lib.hid (row_call hb HRH.out)
          replace HRR := Lib.hid (row_call hb HRR.out)
          replace HRW := Lib.hid (row_call hb HRW.out)
          replace HB := Lib.hid (below_call hb HB.out)
          have HRK := Lib.hid (show wk.heap[gk]? = some (.cells (words K64) 59 (0, 0)) by rw [hgk, hwk]; exact heap_alloc_new w6 _)
          replace HK0 := Lib.hid (show w.heap.size + 1 + 1 < gk by rw [hgk]; exact HK0.out)
          rw [← hgk, ← hwk]
          clear hb hgk hwk
          go_wp2_with first
            | ((with_reducible refine guard_list ?_); refine held_load 50 _ rfl ?_; refine wpl_ld_at2 rfl _ _ rfl ⟨w.heap.size, 0, none⟩ rfl (words st) 8 tW8 HWS.out (fun j v hv => by rw [add_lit, row_cell HRH.out j]; exact hv) ?_)
            | ((with_reducible refine guard_list ?_); refine held_st 50 _ _ rfl ?_; refine st_row rfl _ _ _ rfl _ (words st) rfl rfl _ _ (heap_alloc_new wk _) 8 tW8 HWS.out rfl (words_one _) ?_; rw [World.setRow_alloc_new])
          have hb := (Below.refl wk.heap.size wk).alloc (Nat.le_refl _) (.cells (words st) 50)
          have HG5 := Lib.hid (show gk < wk.heap.size from (Array.getElem?_eq_some_iff.1 HRK.out).1)
          obtain ⟨gv, hgv⟩ : ∃ gv, gv = wk.heap.size := ⟨_, rfl⟩
          have HRV := Lib.hid (show (wk.alloc (.cells (words st) 50)).heap[gv]? = some (.cells (words st) 50 (0, 0)) by rw [hgv]; exact heap_alloc_new wk _)
          replace HG5 := Lib.hid (show gk < gv by rw [hgv]; exact HG5.out)
          replace HRH := Lib.hid (row_call hb HRH.out)
          replace HRR := Lib.hid (row_call hb HRR.out)
          replace HRW := Lib.hid (row_call hb HRW.out)
          replace HRK := Lib.hid (row_call hb HRK.out)
          replace HB := Lib.hid (below_call hb HB.out)
          rw [← hgv]
          clear hb hgv
          go_loopw [16] (fun j wr => ∃ k3 : Nat, k3 ≤ 64 ∧ j = .int .i64 (k3 : Nat) ∧ wr.heap[w.heap.size]? = some (.cells (words st) 50 (0, 0)) ∧ wr.heap[w.heap.size + 1]? = some (.cells (words (List.replicate 8 0)) 50 (0, 0)) ∧ wr.heap[w.heap.size + 1 + 1]? = some (.cells (words SL) 59 (0, 0)) ∧ wr.heap[gk]? = some (.cells (words K64) 59 (0, 0)) ∧ wr.heap[gv]? = some (.cells (words (runL SL st k3)) 50 (0, 0)) ∧ Below w.heap.size w wr) (fun j _ => 64 - (intOf j).toNat)
          case atStart => exact ⟨0, by omega, rfl, HRH.out, HRR.out, HRW.out, HRK.out, HRV.out, HB.out⟩
          case round =>
            clear HRH HRR HRW HRK HRV HB
            obtain ⟨k3, hk3, rfl, hr1, hr2, hr3, hr4, hr5, hb⟩ := hrel
            have HRH := Lib.hid hr1
            have HRR := Lib.hid hr2
            have HRW := Lib.hid hr3
            have HRK := Lib.hid hr4
            have HB := Lib.hid hb
            clear hr1 hr2 hr3 hr4 hb
            by_cases hlt : k3 < 64
            · obtain ⟨a0, a1, a2, a3, a4, a5, a6, a7, ha⟩ := eight (runL_len (W := SL) HS.out k3)
              have HRU := Lib.hid (show runL SL st (k3 + 1) = stepL a0 a1 a2 a3 a4 a5 a6 a7 ((nth K64 k3 + nth SL k3) % 4294967296) by rw [runL, ha]; rfl)
              rw [ha] at hr5
              have HRV := Lib.hid hr5
              have qk : 0 ≤ (k3 : Int) := by omega
              have lk : (k3 : Int) < 64 := by omega
              clear hr5 ha
              have v0 : wr.cell? ⟨gv, 0, none⟩ = some (.int .u32 a0) := (row_cell HRV.out 0).trans (by rfl)
              have v1 : wr.cell? ⟨gv, 1, none⟩ = some (.int .u32 a1) := (row_cell HRV.out 1).trans (by rfl)
              have v2 : wr.cell? ⟨gv, 2, none⟩ = some (.int .u32 a2) := (row_cell HRV.out 2).trans (by rfl)
              have v3 : wr.cell? ⟨gv, 3, none⟩ = some (.int .u32 a3) := (row_cell HRV.out 3).trans (by rfl)
              have v4 : wr.cell? ⟨gv, 4, none⟩ = some (.int .u32 a4) := (row_cell HRV.out 4).trans (by rfl)
              have v5 : wr.cell? ⟨gv, 5, none⟩ = some (.int .u32 a5) := (row_cell HRV.out 5).trans (by rfl)
              have v6 : wr.cell? ⟨gv, 6, none⟩ = some (.int .u32 a6) := (row_cell HRV.out 6).trans (by rfl)
              have v7 : wr.cell? ⟨gv, 7, none⟩ = some (.int .u32 a7) := (row_cell HRV.out 7).trans (by rfl)
              go_wp2_with fail
              go_quiet (fail)
              have HQ := Lib.hid (show Below wr.heap.size wr (wr.drewN nq) from below_drewN wr nq)
              generalize wr.drewN nq = w2 at *
              replace HRH := Lib.hid (row_call HQ.out HRH.out)
              replace HRR := Lib.hid (row_call HQ.out HRR.out)
              replace HRW := Lib.hid (row_call HQ.out HRW.out)
              replace HRK := Lib.hid (row_call HQ.out HRK.out)
              replace HRV := Lib.hid (row_call HQ.out HRV.out)
              replace HB := Lib.hid (below_call HQ.out HB.out)
              clear v0 v1 v2 v3 v4 v5 v6 v7 HQ
              have HCV := Lib.hid (show ∀ w', Below w2.heap.size w2 w' → ∀ j v, (words [a0, a1, a2, a3, a4, a5, a6, a7])[j]? = some v → w'.cell? ⟨gv, j, none⟩ = some v from fun w' h j v hv => (row_cell (row_call h HRV.out) j).trans hv)
              have HCK := Lib.hid (show ∀ w', Below w2.heap.size w2 w' → w'.cell? ⟨gk, k3, none⟩ = some (.int .u32 (nth K64 k3)) from fun w' h => (row_cell (row_call h HRK.out) k3).trans (words_get (by exact hlt)))
              have HCW := Lib.hid (show ∀ w', Below w2.heap.size w2 w' → w'.cell? ⟨w.heap.size + 1 + 1, k3, none⟩ = some (.int .u32 (nth SL k3)) from fun w' h => (row_cell (row_call h HRW.out) k3).trans (words_get (by rw [HSL.out]; exact hlt)))
              go_upto_region 20 with fail
              refine wp_region_held_drew (S := (fun w' : World => Below w2.heap.size w2 w')) (by kernel_rfl) (Below.refl _ _).drew (fun hS => ?_)
              refine wpAnyH_take (i := 0) (oi := ⟨some 99, _, _, _, _, _⟩) (v := ?_) rfl (by kernel_rfl) (by kernel_rfl) (by kernel_rfl) (fun _ _ _ h => h) (Or.inl ⟨by rfl, ?_⟩) hS ?_
              rotate_left
              · intro w hSw; go_simp; first | done | with_reducible rfl
              try simp only [Act.put, List.setIfInBounds_toArray, List.set_cons_zero, List.set_cons_succ]
              refine wpAnyH_take (i := 1) (oi := ⟨some 100, _, _, _, _, _⟩) rfl (by kernel_rfl) (by kernel_rfl) (by kernel_rfl) (fun _ _ _ h => h) (yieldsIf_cell3 (by rfl) _ _ rfl (⟨gv, 7, none⟩) (by rfl) (.int .u32 a7) (fun _ h => HCV.out _ h 7 _ rfl) tU32) hS ?_
              try simp only [Act.put, List.setIfInBounds_toArray, List.set_cons_zero, List.set_cons_succ]
              refine wpAnyH_take (i := 2) (oi := ⟨some 101, _, _, _, _, _⟩) (v := ?_) rfl (by kernel_rfl) (by kernel_rfl) (by kernel_rfl) (fun _ _ _ h => h) (Or.inl ⟨by rfl, ?_⟩) hS ?_
              rotate_left
              · intro w hSw; go_simp; first | done | with_reducible rfl
              try simp only [Act.put, List.setIfInBounds_toArray, List.set_cons_zero, List.set_cons_succ]
              refine wpAnyH_take (i := 4) (oi := ⟨some 103, _, _, _, _, _⟩) (v := ?_) rfl (by kernel_rfl) (by kernel_rfl) (by kernel_rfl) (fun _ _ _ h => h) (Or.inl ⟨by rfl, ?_⟩) hS ?_
              rotate_left
              · intro w hSw; go_simp; first | done | with_reducible rfl
              try simp only [Act.put, List.setIfInBounds_toArray, List.set_cons_zero, List.set_cons_succ]
              refine wpAnyH_take (i := 7) (oi := ⟨some 106, _, _, _, _, _⟩) (v := ?_) rfl (by kernel_rfl) (by kernel_rfl) (by kernel_rfl) (fun _ _ _ h => h) (Or.inl ⟨by rfl, ?_⟩) hS ?_
              rotate_left
              · intro w hSw; go_simp; first | done | with_reducible rfl
              try simp only [Act.put, List.setIfInBounds_toArray, List.set_cons_zero, List.set_cons_succ]
              refine wpAnyH_take (i := 11) (oi := ⟨some 110, _, _, _, _, _⟩) (v := ?_) rfl (by kernel_rfl) (by kernel_rfl) (by kernel_rfl) (fun _ _ _ h => h) (Or.inl ⟨by rfl, ?_⟩) hS ?_
              rotate_left
              · intro w hSw; go_simp; first | done | with_reducible rfl
              try simp only [Act.put, List.setIfInBounds_toArray, List.set_cons_zero, List.set_cons_succ]
              refine wpAnyH_take (i := 12) (oi := ⟨some 111, _, _, _, _, _⟩) (v := ?_) rfl (by kernel_rfl) (by kernel_rfl) (by kernel_rfl) (fun _ _ _ h => h) (Or.inl ⟨by rfl, ?_⟩) hS ?_
              rotate_left
              · intro w hSw; go_simp; first | done | with_reducible rfl
              try simp only [Act.put, List.setIfInBounds_toArray, List.set_cons_zero, List.set_cons_succ]
              refine wpAnyH_take (i := 13) (oi := ⟨some 112, _, _, _, _, _⟩) (v := ?_) rfl (by kernel_rfl) (by kernel_rfl) (by kernel_rfl) (fun _ _ _ h => h) (Or.inl ⟨by rfl, ?_⟩) hS ?_
              rotate_left
              · intro w hSw; go_simp; first | done | with_reducible rfl
              try simp only [Act.put, List.setIfInBounds_toArray, List.set_cons_zero, List.set_cons_succ]
              refine wpAnyH_take (i := 14) (oi := ⟨some 113, _, _, _, _, _⟩) (v := ?_) rfl (by kernel_rfl) (by kernel_rfl) (by kernel_rfl) (fun _ _ _ h => h) (Or.inl ⟨by rfl, ?_⟩) hS ?_
              rotate_left
              · intro w hSw; go_simp; first | done | with_reducible rfl
              try simp only [Act.put, List.setIfInBounds_toArray, List.set_cons_zero, List.set_cons_succ]
              refine wpAnyH_take (i := 15) (oi := ⟨some 114, _, _, _, _, _⟩) (v := ?_) rfl (by kernel_rfl) (by kernel_rfl) (by kernel_rfl) (fun _ _ _ h => h) (Or.inl ⟨by rfl, ?_⟩) hS ?_
              rotate_left
              · intro w hSw; go_simp; first | done | with_reducible rfl
              try simp only [Act.put, List.setIfInBounds_toArray, List.set_cons_zero, List.set_cons_succ]
              refine wpAnyH_take (i := 16) (oi := ⟨some 115, _, _, _, _, _⟩) (v := ?_) rfl (by kernel_rfl) (by kernel_rfl) (by kernel_rfl) (fun _ _ _ h => h) (Or.inl ⟨by rfl, ?_⟩) hS ?_
              rotate_left
              · intro w hSw; go_simp; first | done | with_reducible rfl
              try simp only [Act.put, List.setIfInBounds_toArray, List.set_cons_zero, List.set_cons_succ]
              refine wpAnyH_take (i := 17) (oi := ⟨some 116, _, _, _, _, _⟩) (v := ?_) rfl (by kernel_rfl) (by kernel_rfl) (by kernel_rfl) (fun _ _ _ h => h) (Or.inl ⟨by rfl, ?_⟩) hS ?_
              rotate_left
              · intro w hSw; go_simp; first | done | with_reducible rfl
              try simp only [Act.put, List.setIfInBounds_toArray, List.set_cons_zero, List.set_cons_succ]
              refine wpAnyH_take (i := 18) (oi := ⟨some 117, _, _, _, _, _⟩) (v := ?_) rfl (by kernel_rfl) (by kernel_rfl) (by kernel_rfl) (fun _ _ _ h => h) (Or.inl ⟨by rfl, ?_⟩) hS ?_
              rotate_left
              · intro w hSw; go_simp; first | done | with_reducible rfl
              try simp only [Act.put, List.setIfInBounds_toArray, List.set_cons_zero, List.set_cons_succ]
              refine wpAnyH_take (i := 20) (oi := ⟨some 119, _, _, _, _, _⟩) (v := ?_) rfl (by kernel_rfl) (by kernel_rfl) (by kernel_rfl) (fun _ _ _ h => h) (Or.inl ⟨by rfl, ?_⟩) hS ?_
              rotate_left
              · intro w hSw; go_simp; first | done | with_reducible rfl
              try simp only [Act.put, List.setIfInBounds_toArray, List.set_cons_zero, List.set_cons_succ]
              refine wpAnyH_take (i := 21) (oi := ⟨some 120, _, _, _, _, _⟩) (v := ?_) rfl (by kernel_rfl) (by kernel_rfl) (by kernel_rfl) (fun _ _ _ h => h) (Or.inl ⟨by rfl, ?_⟩) hS ?_
              rotate_left
              · intro w hSw; go_simp; first | done | with_reducible rfl
              try simp only [Act.put, List.setIfInBounds_toArray, List.set_cons_zero, List.set_cons_succ]
              refine wpAnyH_take (i := 22) (oi := ⟨some 121, _, _, _, _, _⟩) rfl (by kernel_rfl) (by kernel_rfl) (by kernel_rfl) (fun _ _ _ h => h) (yieldsIf_cell3 (by rfl) _ _ rfl (⟨gk, k3, none⟩) (by rfl) (.int .u32 (nth K64 k3)) (fun _ h => HCK.out _ h) tU32) hS ?_
              try simp only [Act.put, List.setIfInBounds_toArray, List.set_cons_zero, List.set_cons_succ]
              refine wpAnyH_take (i := 24) (oi := ⟨some 123, _, _, _, _, _⟩) (v := ?_) rfl (by kernel_rfl) (by kernel_rfl) (by kernel_rfl) (fun _ _ _ h => h) (Or.inl ⟨by rfl, ?_⟩) hS ?_
              rotate_left
              · intro w hSw; go_simp; first | done | with_reducible rfl
              try simp only [Act.put, List.setIfInBounds_toArray, List.set_cons_zero, List.set_cons_succ]
              refine wpAnyH_take (i := 25) (oi := ⟨some 124, _, _, _, _, _⟩) (v := ?_) rfl (by kernel_rfl) (by kernel_rfl) (by kernel_rfl) (fun _ _ _ h => h) (Or.inl ⟨by rfl, ?_⟩) hS ?_
              rotate_left
              · intro w hSw; go_simp; first | done | with_reducible rfl
              try simp only [Act.put, List.setIfInBounds_toArray, List.set_cons_zero, List.set_cons_succ]
              refine wpAnyH_take (i := 26) (oi := ⟨some 125, _, _, _, _, _⟩) rfl (by kernel_rfl) (by kernel_rfl) (by kernel_rfl) (fun _ _ _ h => h) (yieldsIf_cell3 (by rfl) _ _ rfl (⟨w.heap.size + 1 + 1, k3, none⟩) (by rfl) (.int .u32 (nth SL k3)) (fun _ h => HCW.out _ h) tU32) hS ?_
              try simp only [Act.put, List.setIfInBounds_toArray, List.set_cons_zero, List.set_cons_succ]
              refine wpAnyH_ready (rs := [3]) (by kernel_rfl) (by simp) (AllReadyH.cons (o := ⟨some 102, _, _, _, _, _⟩) rfl (fun K hK => ?_) AllReadyH.nil)
              go_simp
              refine (rotR_6 _ _).mono ?_
              rintro e w7_6 ⟨rfl, hb⟩
              refine hK.out _ _ (below_call hb hS) (fun hS => ?_)
              clear hK K
              try simp only [Act.put, List.setIfInBounds_toArray, List.set_cons_zero, List.set_cons_succ]
              refine wpAnyH_ready (rs := [5]) (by kernel_rfl) (by simp) (AllReadyH.cons (o := ⟨some 104, _, _, _, _, _⟩) rfl (fun K hK => ?_) AllReadyH.nil)
              go_simp
              refine (rotR_11 _ _).mono ?_
              rintro e w7_11 ⟨rfl, hb⟩
              refine hK.out _ _ (below_call hb hS) (fun hS => ?_)
              clear hK K
              try simp only [Act.put, List.setIfInBounds_toArray, List.set_cons_zero, List.set_cons_succ]
              refine wpAnyH_take (i := 6) (oi := ⟨some 105, _, _, _, _, _⟩) (v := ?_) rfl (by kernel_rfl) (by kernel_rfl) (by kernel_rfl) (fun _ _ _ h => h) (Or.inl ⟨by rfl, ?_⟩) hS ?_
              rotate_left
              · intro w hSw; go_simp; first | done | with_reducible rfl
              try simp only [Act.put, List.setIfInBounds_toArray, List.set_cons_zero, List.set_cons_succ]
              refine wpAnyH_ready (rs := [8]) (by kernel_rfl) (by simp) (AllReadyH.cons (o := ⟨some 107, _, _, _, _, _⟩) rfl (fun K hK => ?_) AllReadyH.nil)
              go_simp
              refine (rotR_25 _ _).mono ?_
              rintro e w7_25 ⟨rfl, hb⟩
              refine hK.out _ _ (below_call hb hS) (fun hS => ?_)
              clear hK K
              try simp only [Act.put, List.setIfInBounds_toArray, List.set_cons_zero, List.set_cons_succ]
              refine wpAnyH_take (i := 9) (oi := ⟨some 108, _, _, _, _, _⟩) (v := ?_) rfl (by kernel_rfl) (by kernel_rfl) (by kernel_rfl) (fun _ _ _ h => h) (Or.inl ⟨by rfl, ?_⟩) hS ?_
              rotate_left
              · intro w hSw; go_simp; first | done | with_reducible rfl
              try simp only [Act.put, List.setIfInBounds_toArray, List.set_cons_zero, List.set_cons_succ]
              refine wpAnyH_take (i := 10) (oi := ⟨some 109, _, _, _, _, _⟩) (v := ?_) rfl (by kernel_rfl) (by kernel_rfl) (by kernel_rfl) (fun _ _ _ h => h) (Or.inl ⟨by rfl, ?_⟩) hS ?_
              rotate_left
              · intro w hSw; go_simp; first | done | with_reducible rfl
              try simp only [Act.put, List.setIfInBounds_toArray, List.set_cons_zero, List.set_cons_succ]
              refine wpAnyH_take (i := 19) (oi := ⟨some 118, _, _, _, _, _⟩) (v := ?_) rfl (by kernel_rfl) (by kernel_rfl) (by kernel_rfl) (fun _ _ _ h => h) (Or.inl ⟨by rfl, ?_⟩) hS ?_
              rotate_left
              · intro w hSw; go_simp; first | done | with_reducible rfl
              try simp only [Act.put, List.setIfInBounds_toArray, List.set_cons_zero, List.set_cons_succ]
              refine wpAnyH_take (i := 23) (oi := ⟨some 122, _, _, _, _, _⟩) (v := ?_) rfl (by kernel_rfl) (by kernel_rfl) (by kernel_rfl) (fun _ _ _ h => h) (Or.inl ⟨by rfl, ?_⟩) hS ?_
              rotate_left
              · intro w hSw; go_simp; first | done | with_reducible rfl
              try simp only [Act.put, List.setIfInBounds_toArray, List.set_cons_zero, List.set_cons_succ]
              refine wpAnyH_take (i := 27) (oi := ⟨some 126, _, _, _, _, _⟩) (v := ?_) rfl (by kernel_rfl) (by kernel_rfl) (by kernel_rfl) (fun _ _ _ h => h) (Or.inl ⟨by rfl, ?_⟩) hS ?_
              rotate_left
              · intro w hSw; go_simp; first | done | with_reducible rfl
              try simp only [Act.put, List.setIfInBounds_toArray, List.set_cons_zero, List.set_cons_succ]
              refine wpAnyH_ready (rs := [28]) (by kernel_rfl) (by simp) (AllReadyH.cons (o := ⟨some 23, _, _, _, _, _⟩) rfl (fun K hK => ?_) AllReadyH.nil)
              go_simp
              refine hK.out _ _ hS (fun hS => ?_)
              clear hK K
              try simp only [Act.put, List.setIfInBounds_toArray, List.set_cons_zero, List.set_cons_succ]
              refine wpAnyH_done (by kernel_rfl) ?_ _
              have hb := hS
              clear hS HCV HCK HCW
              replace HRH := Lib.hid (row_call hb HRH.out)
              replace HRR := Lib.hid (row_call hb HRR.out)
              replace HRW := Lib.hid (row_call hb HRW.out)
              replace HRK := Lib.hid (row_call hb HRK.out)
              replace HRV := Lib.hid (row_call hb HRV.out)
              replace HB := Lib.hid (below_call hb HB.out)
              clear hb
              have T2 : True := trivial
              have T13 : True := trivial
              have T22 : True := trivial
              have v3 : w7_25.cell? ⟨gv, 3, none⟩ = some (.int .u32 a3) := (row_cell HRV.out 3).trans (by rfl)
              clear v3
              go_wp2_with first
                | (go_at_call 25; refine ((fun (_ : True) => rotR_2 _ _) T2).mono ?_; rintro e w8_2 ⟨rfl, hb⟩; replace HRH := Lib.hid (row_call hb HRH.out); replace HRR := Lib.hid (row_call hb HRR.out); replace HRW := Lib.hid (row_call hb HRW.out); replace HRK := Lib.hid (row_call hb HRK.out); replace HRV := Lib.hid (row_call hb HRV.out); replace HB := Lib.hid (below_call hb HB.out); clear hb T2)
                | (go_at_call 25; refine ((fun (_ : True) => rotR_13 _ _) T13).mono ?_; rintro e w8_13 ⟨rfl, hb⟩; replace HRH := Lib.hid (row_call hb HRH.out); replace HRR := Lib.hid (row_call hb HRR.out); replace HRW := Lib.hid (row_call hb HRW.out); replace HRK := Lib.hid (row_call hb HRK.out); replace HRV := Lib.hid (row_call hb HRV.out); replace HB := Lib.hid (below_call hb HB.out); clear hb T13)
                | (go_at_call 25; refine ((fun (_ : True) => rotR_22 _ _) T22).mono ?_; rintro e w8_22 ⟨rfl, hb⟩; replace HRH := Lib.hid (row_call hb HRH.out); replace HRR := Lib.hid (row_call hb HRR.out); replace HRW := Lib.hid (row_call hb HRW.out); replace HRK := Lib.hid (row_call hb HRK.out); replace HRV := Lib.hid (row_call hb HRV.out); replace HB := Lib.hid (below_call hb HB.out); have v3 : w8_22.cell? ⟨gv, 3, none⟩ = some (.int .u32 a3) := (row_cell HRV.out 3).trans (by rfl); clear hb T22)
                | ((with_reducible refine guard_list ?_); refine held_st 50 _ _ rfl ?_)
              have key : ∀ x y : Int, x = (a7 + sg1 a4 + chs a4 a5 a6 + (nth K64 k3 + nth SL k3) % 4294967296 + (sg0 a0 + maj a0 a1 a2)) % 4294967296 → y = (a3 + (a7 + sg1 a4 + chs a4 a5 a6 + (nth K64 k3 + nth SL k3) % 4294967296)) % 4294967296 → (#[.int .u32 x, .int .u32 a0, .int .u32 a1, .int .u32 a2, .int .u32 y, .int .u32 a4, .int .u32 a5, .int .u32 a6] : Array Value) = words (stepL a0 a1 a2 a3 a4 a5 a6 a7 ((nth K64 k3 + nth SL k3) % 4294967296)) := by
                rintro x y rfl rfl
                rfl
              refine st_row rfl 50 _ _ rfl gv (words (stepL a0 a1 a2 a3 a4 a5 a6 a7 ((nth K64 k3 + nth SL k3) % 4294967296))) rfl ((show _ = Value.agg #[.int .u32 _, .int .u32 a0, .int .u32 a1, .int .u32 a2, .int .u32 _, .int .u32 a4, .int .u32 a5, .int .u32 a6] from rfl).trans (congrArg Value.agg (key _ _ ?_ ?_))) _ _ HRV.out 8 tW8 rfl rfl (words_one _) ?_
              · unfold sg1 chs sg0 maj
                try simp only [IntKind.wrap_u32]
                omega
              · unfold sg1 chs
                try simp only [IntKind.wrap_u32]
                omega
              clear key
              have HRV' := Lib.hid (show (w8_22.setRow gv (words (stepL a0 a1 a2 a3 a4 a5 a6 a7 ((nth K64 k3 + nth SL k3) % 4294967296)))).heap[gv]? = some (.cells (words (runL SL st (k3 + 1))) 50 (0, 0)) by rw [HRU.out]; exact row_put HRV.out)
              have HRH' := Lib.hid (row_put_other (cs := words (stepL a0 a1 a2 a3 a4 a5 a6 a7 ((nth K64 k3 + nth SL k3) % 4294967296))) HRH.out (by have := HK0.out; have := HG5.out; omega : w.heap.size ≠ gv))
              have HRR' := Lib.hid (row_put_other (cs := words (stepL a0 a1 a2 a3 a4 a5 a6 a7 ((nth K64 k3 + nth SL k3) % 4294967296))) HRR.out (by have := HK0.out; have := HG5.out; omega : w.heap.size + 1 ≠ gv))
              have HRW' := Lib.hid (row_put_other (cs := words (stepL a0 a1 a2 a3 a4 a5 a6 a7 ((nth K64 k3 + nth SL k3) % 4294967296))) HRW.out (by have := HK0.out; have := HG5.out; omega : w.heap.size + 1 + 1 ≠ gv))
              have HRK' := Lib.hid (row_put_other (cs := words (stepL a0 a1 a2 a3 a4 a5 a6 a7 ((nth K64 k3 + nth SL k3) % 4294967296))) HRK.out (by have := HG5.out; omega : gk ≠ gv))
              have HB' := Lib.hid (below_setRow HB.out (by have := HK0.out; have := HG5.out; omega : w.heap.size ≤ gv) (words (stepL a0 a1 a2 a3 a4 a5 a6 a7 ((nth K64 k3 + nth SL k3) % 4294967296))))
              clear HRU
              go_wp2_with fail
              go_roundw
              case rel => exact ⟨k3 + 1, by omega, by go_num, HRH'.out, HRR'.out, HRW'.out, HRK'.out, HRV'.out, HB'.out⟩
              case measure => simp [intOf]; omega
            · obtain rfl : k3 = 64 := by omega
              clear hlt hk3
              obtain ⟨V, hV⟩ : ∃ V, V = runL SL st 64 := ⟨_, rfl⟩
              have HVL := Lib.hid (show V.length = 8 by rw [hV]; exact runL_len HS.out 64)
              have HVE := Lib.hid (show V = runL (schedL (wordsOf bk) 48) st 64 by rw [hV, HSLE.out])
              rw [← hV] at hr5
              have HRV := Lib.hid hr5
              clear hr5 hV HSLE HSL HRW HRK
              go_wp2_with fail
              go_loopw [25] (fun j wr => ∃ k4 : Nat, k4 ≤ 8 ∧ j = .int .i64 (k4 : Nat) ∧ wr.heap[w.heap.size]? = some (.cells (words (addL st V k4)) 50 (0, 0)) ∧ wr.heap[w.heap.size + 1]? = some (.cells (words (List.replicate 8 0)) 50 (0, 0)) ∧ wr.heap[gv]? = some (.cells (words V) 50 (0, 0)) ∧ Below w.heap.size w wr) (fun j _ => 8 - (intOf j).toNat)
              case atStart => exact ⟨0, by omega, rfl, by rw [addL_zero]; exact HRH.out, HRR.out, HRV.out, HB.out⟩
              case round =>
                clear HRH HRR HRV HB
                obtain ⟨k4, hk4, rfl, hr1, hr2, hr3, hb⟩ := hrel
                have HRH := Lib.hid hr1
                have HRR := Lib.hid hr2
                have HRV := Lib.hid hr3
                have HB := Lib.hid hb
                clear hr1 hr2 hr3 hb
                by_cases hlt : k4 < 8
                · have HAL := Lib.hid (addL_len HS.out HVL.out (Nat.le_of_lt hlt))
                  have y1 := (row_cell HRH.out k4).trans (words_get (by rw [HAL.out]; exact hlt))
                  rw [addL_here HS.out HVL.out hlt] at y1
                  have y2 := (row_cell HRV.out k4).trans (words_get (by rw [HVL.out]; exact hlt))
                  have x3 := row_free HRH.out k4
                  have qk : 0 ≤ (k4 : Int) := by omega
                  have lk : (k4 : Int) < 8 := by omega
                  have HRH' := Lib.hid (show (wr.setCell ⟨w.heap.size, k4, none⟩ (.int .u32 ((nth st k4 + nth V k4) % 4294967296))).heap[w.heap.size]? = some (.cells (words (addL st V (k4 + 1))) 50 (0, 0)) by
                    rw [heap_setCell_same _ _ _ _ _ _ HRH.out, ← addL_set HS.out HVL.out hlt, ← words_set])
                  have HRR' := Lib.hid ((heap_setCell_other wr ⟨w.heap.size, k4, none⟩ (w.heap.size + 1) (.int .u32 ((nth st k4 + nth V k4) % 4294967296)) (by show w.heap.size + 1 ≠ w.heap.size; omega)).trans HRR.out)
                  have HRV' := Lib.hid ((heap_setCell_other wr ⟨w.heap.size, k4, none⟩ gv (.int .u32 ((nth st k4 + nth V k4) % 4294967296)) (by have := HK0.out; have := HG5.out; show gv ≠ w.heap.size; omega)).trans HRV.out)
                  have HB' := Lib.hid (HB.out.setCell (p := ⟨w.heap.size, k4, none⟩) (Nat.le_refl _) (.int .u32 ((nth st k4 + nth V k4) % 4294967296)))
                  go_wp2_with fail
                  go_still_tail 9, (by kernel_rfl)
                  change wpList _ _ _ _ _ (World.drew _)
                  go_wp2_with fail
                  go_roundw
                  case rel =>
                    repeat apply Exists.intro
                    refine ⟨⟨k4 + 1, by omega, ?_, HRH'.out, HRR'.out, HRV'.out, HB'.out.drew⟩, rfl⟩
                    go_num
                  case measure => simp [intOf]; omega
                · obtain rfl : k4 = 8 := by omega
                  have HAL := Lib.hid (show (words (addL st V 8)).size = 8 by rw [words_size]; exact addL_len HS.out HVL.out (Nat.le_refl _))
                  go_wp2_with first
                    | ((with_reducible refine guard_list ?_); refine held_load 50 _ rfl ?_; refine wpl_ld_at2 rfl _ _ rfl ⟨w.heap.size, 0, none⟩ rfl (words (addL st V 8)) 8 tW8 HAL.out (fun j v hv => by rw [add_lit, row_cell HRH.out j]; exact hv) ?_)
                    | ((with_reducible refine guard_list ?_); refine held_st 50 _ _ rfl ?_)
                  refine st_row rfl 50 _ _ rfl (w.heap.size + 1) (words (addL st V 8)) rfl rfl _ _ HRR.out 8 tW8 HAL.out rfl (words_one _) ?_
                  have HRR' := Lib.hid (row_put (cs' := words (addL st V 8)) HRR.out)
                  go_wp2_with fail
                  refine ret_row rfl _ _ _ rfl HRR'.out 8 tW8 HAL.out rfl ?_
                  refine ⟨?_, below_setRow HB.out (show w.heap.size ≤ w.heap.size + 1 by omega) _⟩
                  rw [blockL, ← HVE.out]
end Go.Proofs.YtemkpihfenokmaaDoor
