/- trystref03.Sum: the reference's digest is the same plain function. Condition: lengths that memory can hold. -/
import Derived.Test.YtemkpihfenokmaaDoorShaJ
import Derived.Test.YtemkpihfenokmaaDoorShaE
namespace Go.Proofs.YtemkpihfenokmaaDoor
open Go.RowKit
theorem padL_byt {m : List Int} (h : Byt m) : Byt (padL m) := by
  rw [← padT_pad]
  intro x hx
  rcases List.mem_append.1 hx with hx | hx
  · exact h x hx
  · exact padT_byt m x hx
set_option maxHeartbeats 4000000 in
set_option maxRecDepth 100000 in
theorem sumR_any (p : Option Addr) (l : List Int) (n c : Nat) (w : World) (hn : l.length = n) (h : BytesIn w p l) (hby : Byt l) (hm : n ≤ 70368744177664) :
    Calls Tryd.prog 8 #[.slice p n c] w (fun e w' => e = .returned (.agg (vals (shaL l))) ∧ Below w.heap.size w w') := by
  have HP := Lib.hid (padded_any p l n c (w.alloc (.cells (vals (zer 32)) 28)) hn (h.keep ((Below.refl _ _).alloc (Nat.le_refl _) _)) hm)
  have HPB := Lib.hid (padL_byt hby)
  have HPM := Lib.hid (padL_len l)
  have HPL := Lib.hid (show (padL l).length ≤ 140737488355328 by
    simp only [padL, padZ, be8, List.length_append, List.length_cons, List.length_nil, List.length_replicate]
    omega)
  have HSH := Lib.hid (show shaL l = outL (stN (padL l) ((padL l).length / 64)) from rfl)
  obtain ⟨b, hb⟩ : ∃ b, b = padL l := ⟨_, rfl⟩
  rw [← hb] at HP HPB HPM HPL HSH
  obtain ⟨nb, hnb⟩ : ∃ nb, nb = b.length := ⟨_, rfl⟩
  rw [← hnb] at HPM HPL HSH
  have HNB := Lib.hid hnb.symm
  have HA1 := Lib.hid ((Below.refl w.heap.size w).alloc (Nat.le_refl _) (.cells (vals (zer 32)) 28))
  have HR := Lib.hid (show (w.alloc (.cells (vals (zer 32)) 28)).heap[w.heap.size]? = some (.cells (vals (zer 32)) 28 (0, 0)) from heap_alloc_new w _)
  clear h hby hn hm hb hnb
  rw [HSH.out]
  clear HSH
  go_enter Tryd.func8, Tryd.ntmps8
  go_wp2_with first
    | ((with_reducible refine guard_list ?_); (refine held_alloc 28 rfl ?_); refine wpl_alloc rfl 28 rfl (.agg (vals (zer 32))) (vals (zer 32)) rfl (fun w => by kernel_rfl) ?_)
    | (go_at_call 17; refine HP.out.mono ?_; rintro e w1 ⟨hb1, v1, rfl, hv1⟩; obtain ⟨p1, c1, rfl, hi1, hp1, ho1, hl1, _⟩ := hv1.open; have HPA := Lib.hid (show ∀ a, p1 = some a → a.block < w1.heap.size from fun a ha => (hv1.lt _ (ho1 a ha).1).2); rw [HNB.out]; have HI := Lib.hid hi1; have HB := Lib.hid (below_call hb1 HA1.out); have HR1 := Lib.hid (row_call hb1 HR.out); clear hb1 hv1 hi1 hp1 hl1 ho1)
    | (go_at_call 18; refine (begin_any _).mono ?_; rintro e w2 ⟨rfl, hb2⟩; have HI2 := Lib.hid (HI.out.keep hb2); have HB2 := Lib.hid (below_call hb2 HB.out); have HR2 := Lib.hid (row_call hb2 HR1.out); replace HPA := Lib.hid (show ∀ a, p1 = some a → a.block < w2.heap.size from fun a ha => Nat.lt_of_lt_of_le (HPA.out a ha) (Below.size hb2)); clear hb2)
    | ((with_reducible refine guard_list ?_); (refine held_alloc 50 rfl ?_); refine wpl_alloc rfl 50 rfl (.agg (words (zer 8))) (words (zer 8)) rfl (fun w => by kernel_rfl) ?_)
    | ((with_reducible refine guard_list ?_); (refine held_st 50 _ _ rfl ?_); refine st_new rfl _ _ _ rfl (words first8) _ _ rfl rfl 8 tW8 rfl rfl (words_one _) ?_)
  have HA := Lib.hid ((Below.refl w2.heap.size w2).alloc (Nat.le_refl _) (.cells (words first8) 50))
  have HS1 := Lib.hid (show (w2.alloc (.cells (words first8) 50)).heap[w2.heap.size]? = some (.cells (words (stN b 0)) 50 (0, 0)) from heap_alloc_new w2 _)
  have HSLT := Lib.hid (show w.heap.size < w2.heap.size from row_lt HR2.out)
  replace HR2 := Lib.hid (row_call HA.out HR2.out)
  replace HB2 := Lib.hid (below_call HA.out HB2.out)
  replace HI2 := Lib.hid (HI2.out.keep HA.out)
  obtain ⟨S, hS⟩ : ∃ S, S = w2.heap.size := ⟨_, rfl⟩
  rw [← hS] at HS1 HSLT HPA ⊢
  clear hS HA HI HB HR1 HP HR HA1
  generalize w2.alloc (.cells (words first8) 50) = w3 at *
  go_loopw [5] (fun i wr => ∃ k : Nat, 64 * k ≤ nb ∧ i = .int .i64 ((64 * k : Nat) : Int) ∧ wr.heap[w.heap.size]? = some (.cells (vals (zer 32)) 28 (0, 0)) ∧ wr.heap[S]? = some (.cells (words (stN b k)) 50 (0, 0)) ∧ BytesIn wr p1 b ∧ Below w.heap.size w wr) (fun i _ => nb - (intOf i).toNat)
  case atStart => exact ⟨0, by omega, rfl, HR2.out, HS1.out, HI2.out, HB2.out⟩
  case round =>
    clear HR2 HS1 HB2 HI2
    obtain ⟨k, hk, rfl, hr, hs, hi, hb⟩ := hrel
    have HR := Lib.hid hr
    have HS := Lib.hid hs
    have HI := Lib.hid hi
    have HB := Lib.hid hb
    clear hr hs hi hb
    obtain ⟨at_, hat⟩ : ∃ a, a = 64 * k := ⟨_, rfl⟩
    rw [← hat] at hk ⊢
    have HAT := Lib.hid hat
    have hpl := HPL.out
    by_cases hlt : at_ < nb
    · have HNX := Lib.hid (show at_ + 64 ≤ nb by have := HPM.out; omega)
      clear hat
      have hl1 : (at_ : Int) < nb := by omega
      have ea : IntKind.i64.wrap ((at_ : Int) + 64) = (at_ : Int) + 64 := IntWalk.i64_in _ (by omega)
      go_wp2_with first
        | ((with_reducible refine guard_list ?_); (refine held_load 50 _ rfl ?_); refine wpl_ld_at2 rfl _ _ rfl ⟨S, 0, none⟩ rfl (words (stN b k)) 8 tW8 (by rw [words_size]; exact stN_len b k) (fun j v hv => by rw [add_lit]; exact (row_cell HS.out j).trans hv) ?_)
        | (go_at_call 19; refine (roundR_any (stN b k) p1 b nb c1 at_ _ (stN_len b k) HNB.out HPB.out HI.out HNX.out (by omega)).mono ?_; rintro e w5 ⟨rfl, hb5⟩; have HB5 := Lib.hid (below_call hb5 HB.out); have HR5 := Lib.hid (row_call hb5 HR.out); have HS5 := Lib.hid (row_call hb5 HS.out); have HI5 := Lib.hid (HI.out.keep hb5); clear hb5)
        | ((with_reducible refine guard_list ?_); (refine held_st 50 _ _ rfl ?_); refine st_row rfl _ _ _ rfl S (words (blockL (stN b k) ((b.drop at_).take 64))) rfl rfl _ _ HS5.out 8 tW8 (by rw [words_size]; exact blockL_len (stN_len b k)) (by rw [words_size]; exact stN_len b k) (words_one _) ?_)
      have hgr : w5.grownBy (w5.setRow S (words (blockL (stN b k) ((b.drop at_).take 64)))) (some S) := grown_setRow _ (grown_of_below (Below.refl w5.heap.size w5) (some S))
      go_roundw
      case rel => exact ⟨k + 1, by have := HNX.out; have := HAT.out; omega, by congr 1; have := HAT.out; omega, row_put_other HR5.out (Nat.ne_of_lt HSLT.out), by rw [stN, ← HAT.out]; exact row_put HS5.out, HI5.out.far hgr (fun a ha e => Nat.ne_of_lt (HPA.out a ha) (Option.some.inj e)), HB5.out.grown hgr (Below.size HB5.out) (fun q hq => by cases hq; exact Nat.le_of_lt HSLT.out)⟩
      case measure => have := HNX.out; simp [intOf]; omega
    · have hke : k = nb / 64 := by have := HPM.out; omega
      have HSP := Lib.hid (show stN b (nb / 64) = stN b k by rw [hke])
      have HSPL := Lib.hid (stN_len b k)
      have hl2 : ¬ (at_ : Int) < nb := by omega
      obtain ⟨sp, hsp⟩ : ∃ sp, sp = stN b k := ⟨_, rfl⟩
      rw [← hsp] at HSP HSPL HS
      clear hat hk hke HI HPA HPB HPL HPM HAT hpl hsp
      have HA := Lib.hid ((Below.refl wr.heap.size wr).alloc (Nat.le_refl _) (.cells (vals (zer 32)) 28))
      have HO1 := Lib.hid (show (wr.alloc (.cells (vals (zer 32)) 28)).heap[wr.heap.size]? = some (.cells (vals (outP sp 0)) 28 (0, 0)) from heap_alloc_new wr _)
      have HOLT := Lib.hid (show w.heap.size < wr.heap.size ∧ S < wr.heap.size from ⟨row_lt HR.out, row_lt HS.out⟩)
      replace HR := Lib.hid (row_call HA.out HR.out)
      replace HS := Lib.hid (row_call HA.out HS.out)
      replace HB := Lib.hid (below_call HA.out HB.out)
      go_wp2_with ((with_reducible refine guard_list ?_); (refine held_alloc 28 rfl ?_); refine wpl_alloc rfl 28 rfl (.agg (vals (zer 32))) (vals (zer 32)) rfl (fun w => by kernel_rfl) ?_)
      obtain ⟨O, hO⟩ : ∃ O, O = wr.heap.size := ⟨_, rfl⟩
      rw [← hO] at HO1 HOLT ⊢
      clear hO HA hl2 hlt
      generalize wr.alloc (.cells (vals (zer 32)) 28) = w6 at *
      go_loopw [7] (fun i wr => ∃ k : Nat, k ≤ 32 ∧ i = .int .i64 (k : Nat) ∧ wr.heap[w.heap.size]? = some (.cells (vals (zer 32)) 28 (0, 0)) ∧ wr.heap[S]? = some (.cells (words sp) 50 (0, 0)) ∧ wr.heap[O]? = some (.cells (vals (outP sp k)) 28 (0, 0)) ∧ Below w.heap.size w wr) (fun i _ => 32 - (intOf i).toNat)
      case atStart => exact ⟨0, by omega, rfl, HR.out, HS.out, HO1.out, HB.out⟩
      case round =>
        clear HR HS HO1 HB
        obtain ⟨k, hk, rfl, hr0, hr1, hr2, hb⟩ := hrel
        have HR0 := Lib.hid hr0
        have HR1 := Lib.hid hr1
        have HR2 := Lib.hid hr2
        have HB := Lib.hid hb
        clear hr0 hr1 hr2 hb
        by_cases hlt : k < 32
        · have HSTEP := Lib.hid (show ∀ x : Int, x = outB sp k → Hid ((wr.setCell ⟨O, k, none⟩ (.int .u8 x)).heap[w.heap.size]? = some (.cells (vals (zer 32)) 28 (0, 0)) ∧ (wr.setCell ⟨O, k, none⟩ (.int .u8 x)).heap[S]? = some (.cells (words sp) 50 (0, 0)) ∧ (wr.setCell ⟨O, k, none⟩ (.int .u8 x)).heap[O]? = some (.cells (vals (outP sp (k + 1))) 28 (0, 0)) ∧ Below w.heap.size w (wr.setCell ⟨O, k, none⟩ (.int .u8 x))) from fun x hx => Lib.hid (by
            subst hx
            have h1 := HOLT.out
            refine ⟨(heap_setCell_other wr ⟨O, k, none⟩ _ _ (by show w.heap.size ≠ O; omega)).trans HR0.out, (heap_setCell_other wr ⟨O, k, none⟩ _ _ (by show S ≠ O; omega)).trans HR1.out, ?_, HB.out.setCell (p := ⟨O, k, none⟩) (by show w.heap.size ≤ O; omega) _⟩
            rw [heap_setCell_same _ _ _ _ _ _ HR2.out, outP_set sp k hlt]))
          have y1 := (row_cell HR1.out (k / 4)).trans (words_get (l := sp) (by rw [HSPL.out]; omega))
          have x2 := (row_cell HR2.out k).trans (vals_get (l := outP sp k) (by rw [outP_len sp k (by omega)]; omega))
          have x3 := row_free HR2.out k
          generalize nth (outP sp k) k = old at x2
          obtain ⟨q, hq⟩ : ∃ q, q = k / 4 := ⟨_, rfl⟩
          obtain ⟨r, hr⟩ : ∃ r, r = k % 4 := ⟨_, rfl⟩
          have q3 : (q : Int) < 8 := by omega
          have q4 : q < 8 := by omega
          have q0 : 0 ≤ (q : Int) := by omega
          have q6 : (k : Int) < 32 := by omega
          have q7 : 0 ≤ (k : Int) := by omega
          have HK := Lib.hid hlt
          have HOUT := Lib.hid (show outB sp k = nth sp q / 2 ^ (24 - 8 * r) % 256 by rw [outB, hq, hr])
          rw [← hq] at y1
          have HQ := Lib.hid hq
          have HR := Lib.hid hr
          have hr4 : r = 0 ∨ r = 1 ∨ r = 2 ∨ r = 3 := by omega
          clear hq hr hlt
          rcases hr4 with rfl | rfl | rfl | rfl
          · go_wp2_with first
              | ((with_reducible refine guard_list ?_); (refine held_bin .quo _ _ _ _ rfl ?_); refine wpl_quo rfl _ _ _ _ rfl k 4 rfl rfl (by decide) (by have := HK.out; omega) ?_; rw [← HQ.out])
              | ((with_reducible refine guard_list ?_); (refine held_bin .rem _ _ _ _ rfl ?_); refine wpl_rem rfl _ _ _ _ rfl k 4 rfl rfl (by decide) ?_; rw [← HR.out])
            go_roundw
            case rel => exact ⟨k + 1, HK.out, by go_num, (HSTEP.out _ (by rw [HOUT.out]; try rfl; try simp)).out.1, (HSTEP.out _ (by rw [HOUT.out]; try rfl; try simp)).out.2.1, (HSTEP.out _ (by rw [HOUT.out]; try rfl; try simp)).out.2.2.1, (HSTEP.out _ (by rw [HOUT.out]; try rfl; try simp)).out.2.2.2⟩
            case measure => have := HK.out; simp [intOf]; omega
          · go_wp2_with first
              | ((with_reducible refine guard_list ?_); (refine held_bin .quo _ _ _ _ rfl ?_); refine wpl_quo rfl _ _ _ _ rfl k 4 rfl rfl (by decide) (by have := HK.out; omega) ?_; rw [← HQ.out])
              | ((with_reducible refine guard_list ?_); (refine held_bin .rem _ _ _ _ rfl ?_); refine wpl_rem rfl _ _ _ _ rfl k 4 rfl rfl (by decide) ?_; rw [← HR.out])
            go_roundw
            case rel => exact ⟨k + 1, HK.out, by go_num, (HSTEP.out _ (by rw [HOUT.out]; try rfl; try simp)).out.1, (HSTEP.out _ (by rw [HOUT.out]; try rfl; try simp)).out.2.1, (HSTEP.out _ (by rw [HOUT.out]; try rfl; try simp)).out.2.2.1, (HSTEP.out _ (by rw [HOUT.out]; try rfl; try simp)).out.2.2.2⟩
            case measure => have := HK.out; simp [intOf]; omega
          · go_wp2_with first
              | ((with_reducible refine guard_list ?_); (refine held_bin .quo _ _ _ _ rfl ?_); refine wpl_quo rfl _ _ _ _ rfl k 4 rfl rfl (by decide) (by have := HK.out; omega) ?_; rw [← HQ.out])
              | ((with_reducible refine guard_list ?_); (refine held_bin .rem _ _ _ _ rfl ?_); refine wpl_rem rfl _ _ _ _ rfl k 4 rfl rfl (by decide) ?_; rw [← HR.out])
            go_roundw
            case rel => exact ⟨k + 1, HK.out, by go_num, (HSTEP.out _ (by rw [HOUT.out]; try rfl; try simp)).out.1, (HSTEP.out _ (by rw [HOUT.out]; try rfl; try simp)).out.2.1, (HSTEP.out _ (by rw [HOUT.out]; try rfl; try simp)).out.2.2.1, (HSTEP.out _ (by rw [HOUT.out]; try rfl; try simp)).out.2.2.2⟩
            case measure => have := HK.out; simp [intOf]; omega
          · go_wp2_with first
              | ((with_reducible refine guard_list ?_); (refine held_bin .quo _ _ _ _ rfl ?_); refine wpl_quo rfl _ _ _ _ rfl k 4 rfl rfl (by decide) (by have := HK.out; omega) ?_; rw [← HQ.out])
              | ((with_reducible refine guard_list ?_); (refine held_bin .rem _ _ _ _ rfl ?_); refine wpl_rem rfl _ _ _ _ rfl k 4 rfl rfl (by decide) ?_; rw [← HR.out])
            go_roundw
            case rel => exact ⟨k + 1, HK.out, by go_num, (HSTEP.out _ (by rw [HOUT.out, show (2 : Int) ^ (24 - 8 * 3) = 1 from rfl, Int.ediv_one])).out.1, (HSTEP.out _ (by rw [HOUT.out, show (2 : Int) ^ (24 - 8 * 3) = 1 from rfl, Int.ediv_one])).out.2.1, (HSTEP.out _ (by rw [HOUT.out, show (2 : Int) ^ (24 - 8 * 3) = 1 from rfl, Int.ediv_one])).out.2.2.1, (HSTEP.out _ (by rw [HOUT.out, show (2 : Int) ^ (24 - 8 * 3) = 1 from rfl, Int.ediv_one])).out.2.2.2⟩
            case measure => have := HK.out; simp [intOf]; omega
        · obtain rfl : k = 32 := by omega
          have HOP := Lib.hid (show outP sp 32 = outL sp from List.append_nil _)
          have HOL := Lib.hid (show (vals (outL sp)).size = 32 by simp [vals, outL])
          clear hlt hk
          replace HR2 := Lib.hid (show wr.heap[O]? = some (.cells (vals (outL sp)) 28 (0, 0)) by have h1 := HR2.out; rwa [HOP.out] at h1)
          go_wp2_with first
            | ((with_reducible refine guard_list ?_); (refine held_load 28 _ rfl ?_); refine wpl_ld_at2 rfl _ _ rfl ⟨O, 0, none⟩ rfl (vals (outL sp)) 32 tOut HOL.out (fun j v hv => by rw [add_lit]; exact (row_cell HR2.out j).trans hv) ?_)
            | ((with_reducible refine guard_list ?_); (refine held_st 28 _ _ rfl ?_); refine st_row rfl _ _ _ rfl w.heap.size (vals (outL sp)) rfl rfl _ _ HR0.out 32 tOut HOL.out rfl (vals_one _) ?_)
          refine ret_row rfl _ _ _ rfl (row_put HR0.out) 32 tOut HOL.out rfl ?_
          exact ⟨by rw [HSP.out], HB.out.grown (grown_setRow (g := w.heap.size) (vals (outL sp)) (grown_of_below (Below.refl wr.heap.size wr) (some w.heap.size))) (Below.size HB.out) (fun k hk => by cases hk; exact Nat.le_refl _)⟩
end Go.Proofs.YtemkpihfenokmaaDoor
