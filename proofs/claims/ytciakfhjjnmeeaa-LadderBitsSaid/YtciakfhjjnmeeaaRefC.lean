/- Walks of the reference of layer 8: least. Nothing that was there is turned. -/
import Derived.Test.YtciakfhjjnmeeaaRefB
import Derived.Test.YtciakfhjjnmeeaaDig2
namespace Go.Proofs.Ytciakfhjjnmeeaa
open Go.RowKit Nt

/-- The value of a reference's number. -/
abbrev bv (n : F) : Value := .agg (vals (bytesN n.val))
/-- The reference's number n comes back. -/
def NumOut (n : F) (w : World) (e : Ending) (w' : World) : Prop := e = .returned (bv n) ∧ Below w.heap.size w w'

theorem lastly {n : F} {D : List Int} (hD : Norm D) (hd : dnum D = (n.val : Int)) : undg D = bytesN n.val :=
  bytes_of_num _ (by rw [undg_len, hD.1]) (undg_byt _ hD.2) _ (by rw [undg_num, hd])

set_option maxHeartbeats 2000000 in
set_option maxRecDepth 100000 in
theorem least08_any (l : List Int) (n : F) (w : World) (hl : l.length = 16) (hb : ∀ x ∈ l, 0 ≤ x ∧ x < 1125899906842624) (hn : dnum l % 57896044618658097711785492504343953926634992332820282019728792003956564819949 = (n.val : Int)) :
    Calls Try.prog 68 #[.agg (valsK .i64 l)] w (NumOut n w) := by
  have hst := St.start n l hl hb hn
  clear hl hb hn
  go_enter Try.func68, Try.ntmps68
  go_wp2_with fail
  go_loopw [3, 4] (fun s i wr => ∃ (k : Nat) (L : List Int) (c : Int), k ≤ 4 ∧ i = .int .i64 k ∧ s = .int .i64 c ∧ St k n L ∧ wr.heap[w.heap.size]? = some (.cells (valsK .i64 L) 100 (0, 0)) ∧ wr.heap[w.heap.size + 1]? = some (.cells (vals z32) 29 (0, 0)) ∧ Below w.heap.size w wr) (fun _ i _ => 4 - (intOf i).toNat)
  case atStart => exact ⟨0, l, 0, by omega, rfl, rfl, hst, new2_0 .., new2_1 .., by go_grown⟩
  case round =>
    obtain ⟨k, L, c, hk, rfl, rfl, hS, Ra, Rb, Bk⟩ := hrel
    have hLl := Lib.hid hS.1
    by_cases hlt : k < 4
    · go_wp2_with (refine ld_row rfl 100 (.tmp 1) rfl _ (by rfl) _ _ Ra 16 tDig (by rw [valsK_size, hLl.out]) ?_)
      refine (carried08_any L _ hLl.out hS.2.1).mono ?_
      rintro e w1 ⟨M, d, rfl, hM, hd0, hd, hb1⟩
      have hst' := hS.step hM hd0 hd
      have hdb := hst'.1
      have Qa := row_keep hb1 Ra (row_lt Ra)
      have Qb := row_keep hb1 Rb (row_lt Rb)
      have hMn := hM.nth 0
      have hMl := Lib.hid hM.1
      have Bm : Below w.heap.size w w1 := Bk.trans (hb1.mono Bk.size)
      have HST := Lib.hid hst'.2
      have HRL := Lib.hid hLl.out
      clear Ra Rb hst' hS hd hM hb1 hLl hst
      go_wp2_with (refine st_row rfl 100 (.tmp 1) _ rfl _ _ (by rfl) (by rfl) _ _ Qa 16 tDig (by rw [valsK_size, hMl.out]) (by rw [valsK_size, HRL.out]) (valsK_one _ _) ?_; have Pa := row_put (cs' := valsK .i64 M) Qa; have Pb := row_put_other (cs := valsK .i64 M) Qb (by omega : w.heap.size + 1 ≠ w.heap.size); have Bp := below_setRow Bm (Nat.le_refl _) (valsK .i64 M); clear Qa Qb Bm; generalize w1.setRow w.heap.size (valsK .i64 M) = W1 at *; have c0 := (row_cell Pa 0).trans (valsK_get (by rw [hMl.out]; omega)); have f0 := row_free Pa 0)
      go_roundw
      case rel =>
        refine ⟨k + 1, _, d, by omega, by go_num, rfl, HST.out, ?_, ?_, ?_⟩
        · refine (row_set (i := 0) Pa).trans ?_
          rw [valsK_set]
        · exact row_set_other Pb (by omega)
        · go_grown
      case measure => simp [intOf]; omega
    · obtain rfl : k = 4 := by omega
      have hN := hS.2.2.2.2.2 (by omega)
      have hV := hS.2.2.1
      obtain ⟨t1, t2, t3, t4, t5⟩ := high_off hN hV
      have h0 := hN.nth 0
      have h15 := hN.nth 15
      have c0 := (row_cell Ra 0).trans (valsK_get (by rw [hLl.out]; omega))
      have c15 := (row_cell Ra 15).trans (valsK_get (by rw [hLl.out]; omega))
      have f0 := row_free Ra 0
      have f15 := row_free Ra 15
      have R1 := row_set (i := 0) (v := .int .i64 (nth L 0 + 19 * (nth L 15 / 32768))) (row_set (i := 15) (v := .int .i64 (nth L 15 % 32768)) Ra)
      rw [valsK_set, valsK_set] at R1
      have HR1 := Lib.hid R1
      have HRb := Lib.hid (row_set_other (i := 0) (v := .int .i64 (nth L 0 + 19 * (nth L 15 / 32768))) (row_set_other (i := 15) (v := .int .i64 (nth L 15 % 32768)) Rb (by omega : w.heap.size + 1 ≠ w.heap.size)) (by omega : w.heap.size + 1 ≠ w.heap.size))
      have HT1 := Lib.hid t1
      have HT2 := Lib.hid t2
      have HT3 := Lib.hid t3
      have HB2 := Lib.hid (show Below w.heap.size w ((wr.setCell ⟨w.heap.size, 15, none⟩ (.int .i64 (nth L 15 % 32768))).setCell ⟨w.heap.size, 0, none⟩ (.int .i64 (nth L 0 + 19 * (nth L 15 / 32768)))) from by go_grown)
      have HT4 := Lib.hid t4
      have HT5 := Lib.hid t5
      clear Ra Rb R1 t1 t2 t3 hS hLl hst hV Bk t4 t5 hN
      go_wp2_with (refine ld_row rfl 100 (.tmp 1) rfl _ (by rfl) _ _ HR1.out 16 tDig (by rw [valsK_size, HT1.out]) ?_)
      refine (carried08_any _ _ HT1.out HT2.out).mono ?_
      rintro e w1 ⟨M, d, rfl, hM, hd0, hd, hb1⟩
      generalize hX : (L.set 15 (nth L 15 % 32768)).set 0 (nth L 0 + 19 * (nth L 15 / 32768)) = X at *
      generalize hWx : ((wr.setCell ⟨w.heap.size, 15, none⟩ (.int .i64 (nth L 15 % 32768))).setCell ⟨w.heap.size, 0, none⟩ (.int .i64 (nth L 0 + 19 * (nth L 15 / 32768)))) = Wx at *
      clear hX hWx c0 c15 f0 f15
      have hMb := dnum_bound M hM.2
      rw [hM.1] at hMb
      have hMb0 := hMb.1
      have hMV : dnum M = dnum X := by have := HT5.out; have := HT4.out; omega
      have hM3 : dnum M % 57896044618658097711785492504343953926634992332820282019728792003956564819949 = (n.val : Int) := by rw [hMV]; exact HT3.out
      have hM5 : dnum M < 57896044618658097711785492504343953926634992332820282019728792003956564820000 := by rw [hMV]; exact HT5.out
      have Qa := row_keep hb1 HR1.out (row_lt HR1.out)
      have Qb := row_keep hb1 HRb.out (row_lt HRb.out)
      have Bm : Below w.heap.size w w1 := HB2.out.trans (hb1.mono HB2.out.size)
      have hMl := Lib.hid hM.1
      have HM3 := Lib.hid hM3
      have HM5 := Lib.hid hM5
      have HXL := Lib.hid HT1.out
      clear hMb hMV hM3 hM5 HT1 HT2 HT3 HT4 HT5 HR1 HRb hb1 hd HB2
      go_wp2_with (refine st_row rfl 100 (.tmp 1) _ rfl _ _ (by rfl) (by rfl) _ _ Qa 16 tDig (by rw [valsK_size, hMl.out]) (by rw [valsK_size, HXL.out]) (valsK_one _ _) ?_; have Pa := row_put (cs' := valsK .i64 M) Qa; have Pb := row_put_other (cs := valsK .i64 M) Qb (by omega : w.heap.size + 1 ≠ w.heap.size); have Bp := below_setRow Bm (Nat.le_refl _) (valsK .i64 M); clear Qa Qb Bm; generalize w1.setRow w.heap.size (valsK .i64 M) = W1 at *)
      refine (prime08_any 0 _ (by omega) (by omega)).mono ?_
      rintro e w2 ⟨rfl, hb2⟩
      have Qa := row_keep hb2 Pa (row_lt Pa)
      have Qb := row_keep hb2 Pb (row_lt Pb)
      have Bm : Below w.heap.size w w2 := Bp.trans (hb2.mono Bp.size)
      clear Pa Pb Bp hb2
      go_wp2_with fail
      refine (digits_any (pb 0) _ (pb_len 0) (pb_byt 0 (by omega) (by omega))).mono ?_
      rintro e w3 ⟨rfl, hb3⟩
      have Pa := row_keep hb3 Qa (row_lt Qa)
      have Pb := row_keep hb3 Qb (row_lt Qb)
      have Bp : Below w.heap.size w w3 := Bm.trans (hb3.mono Bm.size)
      have hpn := dgs_norm (pb 0) (pb_len 0) (pb_byt 0 (by omega) (by omega))
      have hpl := Lib.hid hpn.1
      have hpd := Lib.hid ((dgs_num 16 (pb 0) (pb_len 0)).trans (pb_num 0))
      clear Qa Qb Bm hb3
      generalize dgs (pb 0) = D0 at *
      have hlt3 := row_lt Pb
      go_wp2_with (first | (refine st_new rfl 100 (.tmp 6) _ rfl _ _ _ (by rfl) (by rfl) 16 tDig (by rw [valsK_size, hpl.out]) (by rfl) (valsK_one _ _) ?_; have Qa := row_alloc (x := .cells (valsK .i64 D0) 100) Pa; have Qb := row_alloc (x := .cells (valsK .i64 D0) 100) Pb; have Qc := row_new (w := w3) (x := .cells (valsK .i64 D0) 100); have Bm : Below w.heap.size w (w3.alloc (.cells (valsK .i64 D0) 100)) := (by go_grown); clear Pa Pb Bp; generalize w3.alloc (.cells (valsK .i64 D0) 100) = W3 at *) | (refine ld_row rfl 100 (.tmp 1) rfl _ (by rfl) _ _ Qa 16 tDig (by rw [valsK_size, hMl.out]) ?_) | (refine ld_row rfl 100 (.tmp 6) rfl _ (by rfl) _ _ Qc 16 tDig (by rw [valsK_size, hpl.out]) ?_))
      refine (ahead_any M D0 _ hM hpn).mono ?_
      rintro e w4 ⟨rfl, hb4⟩
      have Pa := row_keep hb4 Qa (row_lt Qa)
      have Pb := row_keep hb4 Qb (row_lt Qb)
      have Pc := row_keep hb4 Qc (row_lt Qc)
      have Bp : Below w.heap.size w w4 := Bm.trans (hb4.mono Bm.size)
      clear Qa Qb Qc Bm hb4
      by_cases hcmp : dnum M < dnum D0
      · have hdec : decide (dnum M < dnum D0) = true := by simp [hcmp]
        rw [hdec]
        have hfin : dnum M = (n.val : Int) := by
          have a1 := hMb0
          have a2 := HM3.out
          have a3 := hpd.out
          omega
        have hfinal := Lib.hid (lastly hM hfin)
        have hDl := Lib.hid hM.1
        clear hcmp hdec hfin
        obtain ⟨D, rfl⟩ : ∃ D, D = M := ⟨_, rfl⟩
        obtain ⟨w5, rfl⟩ : ∃ w5, w5 = w4 := ⟨_, rfl⟩
        have hD := hM
        clear Pc hpn hpl hpd hMl HM3 HM5 hM
        go_wp2_with fail
        have hwl := row_lt Pb
        go_loopw [8] (fun i wr => ∃ k : Nat, k ≤ 16 ∧ i = .int .i64 k ∧ wr.heap[w.heap.size]? = some (.cells (valsK .i64 D) 100 (0, 0)) ∧ wr.heap[w.heap.size + 1]? = some (.cells (vals z32) 29 (0, 0)) ∧ wr.heap[w5.heap.size]? = some (.cells (vals ((undg D).take (2 * k) ++ z32.drop (2 * k))) 29 (0, 0)) ∧ Below w.heap.size w wr) (fun i _ => 16 - (intOf i).toNat)
        case atStart => exact ⟨0, by omega, rfl, row_alloc Pa, row_alloc Pb, row_new, by go_grown⟩
        case round =>
          have hUl := Lib.hid (show (undg D).length = 32 by rw [undg_len, hDl.out])
          obtain ⟨k, hk, rfl, Ra, Rb, Rc, Bk⟩ := hrel
          by_cases hlt : k < 16
          · have ca := (row_cell Ra k).trans (valsK_get (by rw [hDl.out]; omega))
            have xk := hD.nth k
            have e0 := (row_cell Rc (2 * k)).trans (vals_get (by rw [fill_len _ _ _ (by rw [hUl.out]; rfl) (by rw [hUl.out]; omega)]; show 2 * k < 32; omega))
            have e1 := (row_cell Rc (2 * k + 1)).trans (vals_get (by rw [fill_len _ _ _ (by rw [hUl.out]; rfl) (by rw [hUl.out]; omega)]; show 2 * k + 1 < 32; omega))
            have fc := row_free Rc
            have S1 := row_set (i := 2 * k + 1) (v := .int .u8 (nth D k / 256)) (row_set (i := 2 * k) (v := .int .u8 (nth D k % 256)) Rc)
            have f1 := fill_step (undg D) z32 (2 * k) (by rw [hUl.out]; omega) (by rw [hUl.out]; rfl)
            have f2 := fill_step (undg D) z32 (2 * k + 1) (by rw [hUl.out]; omega) (by rw [hUl.out]; rfl)
            rw [undg_even k D (by rw [hDl.out]; omega)] at f1
            rw [undg_odd k D (by rw [hDl.out]; omega)] at f2
            rw [vals_set, vals_set, f1, f2] at S1
            have HS := Lib.hid S1
            have HA := Lib.hid Ra
            have HB := Lib.hid Rb
            clear Ra Rb Rc S1 f1 f2 Pa Pb Bp
            go_wp2
            go_roundw
            case rel =>
              refine ⟨k + 1, by omega, by go_num, ?_, ?_, HS.out, by go_grown⟩
              · exact row_set_other (row_set_other HA.out (by omega)) (by omega)
              · exact row_set_other (row_set_other HB.out (by omega)) (by omega)
            case measure => simp [intOf]; omega
          · obtain rfl : k = 16 := by omega
            have e16 : (undg D).take (2 * 16) ++ z32.drop (2 * 16) = bytesN n.val := by rw [List.take_of_length_le (by rw [hUl.out]; omega), ← hfinal.out]; exact List.append_nil _
            rw [e16] at Rc
            clear Pa Pb Bp
            go_wp2_with (first | (refine ld_row rfl 29 (.tmp 7) rfl _ (by rfl) _ _ Rc 32 tNum (by rw [vals_size, bytesN_len]) ?_) | (refine st_row rfl 29 (.tmp 2) _ rfl _ _ (by rfl) (by rfl) _ _ Rb 32 tNum (by rw [vals_size, bytesN_len]) (by rfl) (vals_one _) ?_))
            refine ret_row rfl _ _ _ rfl (row_put Rb) 32 tNum (by rw [vals_size, bytesN_len]) rfl ?_
            exact ⟨rfl, below_setRow Bk (by omega) _⟩
      · have hdec : decide (dnum M < dnum D0) = false := by simp [hcmp]
        rw [hdec]
        go_wp2_with (first | (refine ld_row rfl 100 (.tmp 1) rfl _ (by rfl) _ _ Pa 16 tDig (by rw [valsK_size, hMl.out]) ?_) | (refine ld_row rfl 100 (.tmp 6) rfl _ (by rfl) _ _ Pc 16 tDig (by rw [valsK_size, hpl.out]) ?_))
        refine (less_any M D0 _ hM hpn (by omega)).mono ?_
        rintro e w5 ⟨D, rfl, hD, hd5, hb5⟩
        have Qa := row_keep hb5 Pa (row_lt Pa)
        have Qb := row_keep hb5 Pb (row_lt Pb)
        have Bm : Below w.heap.size w w5 := Bp.trans (hb5.mono Bp.size)
        have hfin : dnum D = (n.val : Int) := by
          have a2 := HM3.out
          have a3 := hpd.out
          have a4 := HM5.out
          omega
        have hfinal := Lib.hid (lastly hD hfin)
        have hDl := Lib.hid hD.1
        have hml := Lib.hid hMl.out
        clear Pa Pb Pc Bp hb5 hfin hpn hpl hpd hMl HM3 HM5 hM hcmp hdec hd5
        go_wp2_with (refine st_row rfl 100 (.tmp 1) _ rfl _ _ (by rfl) (by rfl) _ _ Qa 16 tDig (by rw [valsK_size, hDl.out]) (by rw [valsK_size, hml.out]) (valsK_one _ _) ?_; have Pa := row_put (cs' := valsK .i64 D) Qa; have Pb := row_put_other (cs := valsK .i64 D) Qb (by omega : w.heap.size + 1 ≠ w.heap.size); have Bp := below_setRow Bm (Nat.le_refl _) (valsK .i64 D); clear Qa Qb Bm; generalize w5.setRow w.heap.size (valsK .i64 D) = w5 at *)
        have hwl := row_lt Pb
        go_loopw [8] (fun i wr => ∃ k : Nat, k ≤ 16 ∧ i = .int .i64 k ∧ wr.heap[w.heap.size]? = some (.cells (valsK .i64 D) 100 (0, 0)) ∧ wr.heap[w.heap.size + 1]? = some (.cells (vals z32) 29 (0, 0)) ∧ wr.heap[w5.heap.size]? = some (.cells (vals ((undg D).take (2 * k) ++ z32.drop (2 * k))) 29 (0, 0)) ∧ Below w.heap.size w wr) (fun i _ => 16 - (intOf i).toNat)
        case atStart => exact ⟨0, by omega, rfl, row_alloc Pa, row_alloc Pb, row_new, by go_grown⟩
        case round =>
          have hUl := Lib.hid (show (undg D).length = 32 by rw [undg_len, hDl.out])
          obtain ⟨k, hk, rfl, Ra, Rb, Rc, Bk⟩ := hrel
          by_cases hlt : k < 16
          · have ca := (row_cell Ra k).trans (valsK_get (by rw [hDl.out]; omega))
            have xk := hD.nth k
            have e0 := (row_cell Rc (2 * k)).trans (vals_get (by rw [fill_len _ _ _ (by rw [hUl.out]; rfl) (by rw [hUl.out]; omega)]; show 2 * k < 32; omega))
            have e1 := (row_cell Rc (2 * k + 1)).trans (vals_get (by rw [fill_len _ _ _ (by rw [hUl.out]; rfl) (by rw [hUl.out]; omega)]; show 2 * k + 1 < 32; omega))
            have fc := row_free Rc
            have S1 := row_set (i := 2 * k + 1) (v := .int .u8 (nth D k / 256)) (row_set (i := 2 * k) (v := .int .u8 (nth D k % 256)) Rc)
            have f1 := fill_step (undg D) z32 (2 * k) (by rw [hUl.out]; omega) (by rw [hUl.out]; rfl)
            have f2 := fill_step (undg D) z32 (2 * k + 1) (by rw [hUl.out]; omega) (by rw [hUl.out]; rfl)
            rw [undg_even k D (by rw [hDl.out]; omega)] at f1
            rw [undg_odd k D (by rw [hDl.out]; omega)] at f2
            rw [vals_set, vals_set, f1, f2] at S1
            have HS := Lib.hid S1
            have HA := Lib.hid Ra
            have HB := Lib.hid Rb
            clear Ra Rb Rc S1 f1 f2 Pa Pb Bp
            go_wp2
            go_roundw
            case rel =>
              refine ⟨k + 1, by omega, by go_num, ?_, ?_, HS.out, by go_grown⟩
              · exact row_set_other (row_set_other HA.out (by omega)) (by omega)
              · exact row_set_other (row_set_other HB.out (by omega)) (by omega)
            case measure => simp [intOf]; omega
          · obtain rfl : k = 16 := by omega
            have e16 : (undg D).take (2 * 16) ++ z32.drop (2 * 16) = bytesN n.val := by rw [List.take_of_length_le (by rw [hUl.out]; omega), ← hfinal.out]; exact List.append_nil _
            rw [e16] at Rc
            clear Pa Pb Bp
            go_wp2_with (first | (refine ld_row rfl 29 (.tmp 7) rfl _ (by rfl) _ _ Rc 32 tNum (by rw [vals_size, bytesN_len]) ?_) | (refine st_row rfl 29 (.tmp 2) _ rfl _ _ (by rfl) (by rfl) _ _ Rb 32 tNum (by rw [vals_size, bytesN_len]) (by rfl) (vals_one _) ?_))
            refine ret_row rfl _ _ _ rfl (row_put Rb) 32 tNum (by rw [vals_size, bytesN_len]) rfl ?_
            exact ⟨rfl, below_setRow Bk (by omega) _⟩
end Go.Proofs.Ytciakfhjjnmeeaa
