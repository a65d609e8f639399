/- Walks of the reference of layer 8: carried, ahead, less. Nothing that was there is turned. -/
import Derived.Test.YtciakfhjjnmeeaaRefA
import Derived.Deep.QuietTactic
import Derived.BigQuiet
namespace Go.Proofs.Ytciakfhjjnmeeaa
open Go.RowKit Nt

/-- What carrying leaves: sixteen digits, and what counts 65536^16 times. -/
def CarOut (l : List Int) (w : World) (e : Ending) (w' : World) : Prop :=
  ∃ L c, e = .returned (.tuple #[.agg (valsK .i64 L), .int .i64 c]) ∧ Norm L ∧ 0 ≤ c ∧ dnum l = dnum L + 65536 ^ 16 * c ∧ Below w.heap.size w w'

theorem car_step {A : List Int} {l : List Int} {k : Nat} {c : Int} (hk : k < l.length) (hA : A.length = k) (h : dnum A + 65536 ^ k * c = dnum (l.take k)) :
    dnum (A ++ [(nth l k + c) % 65536]) + 65536 ^ (k + 1) * ((nth l k + c) / 65536) = dnum (l.take (k + 1)) := by
  rw [dnum_append, hA, dnum_take l k hk, ← h, Int.pow_succ]
  simp only [dnum]
  have e := Int.mul_ediv_add_emod (nth l k + c) 65536
  grind

set_option maxHeartbeats 1000000 in
set_option maxRecDepth 100000 in
theorem carried08_any (l : List Int) (w : World) (hl : l.length = 16) (hb : ∀ x ∈ l, 0 ≤ x ∧ x < 2251799813685248) :
    Calls Try.prog 90 #[.agg (valsK .i64 l)] w (CarOut l w) := by
  have HL := Lib.hid hl
  have HBD := Lib.hid hb
  clear hl hb
  go_enter Try.func90, Try.ntmps90
  go_wp2_with fail
  go_loopw [4, 5, 6] (fun s i _ wr => ∃ (k : Nat) (c : Int) (A : List Int), k ≤ 16 ∧ i = .int .i64 k ∧ s = .int .i64 c ∧ A.length = k ∧ (∀ x ∈ A, 0 ≤ x ∧ x < 65536) ∧ 0 ≤ c ∧ c ≤ 68719476736 ∧ dnum A + 65536 ^ k * c = dnum (l.take k) ∧ wr.heap[w.heap.size]? = some (.cells (valsK .i64 (A ++ l.drop k)) 100 (0, 0)) ∧ wr.heap[w.heap.size + 1]? = some (.cells (valsK .i64 z16) 100 (0, 0)) ∧ Below w.heap.size w wr) (fun _ i _ _ => 16 - (intOf i).toNat)
  case atStart => exact ⟨0, 0, [], by omega, rfl, rfl, rfl, (fun x hx => by cases hx), by omega, by omega, by simp [dnum], new2_0 .., new2_1 .., by go_grown⟩
  case round =>
    obtain ⟨k, c, A, hk, rfl, rfl, hA, hN, hc0, hc1, hd, Ra, Rb, Bk⟩ := hrel
    by_cases hlt : k < 16
    · have hx := HBD.out (nth l k) (by rw [nth_get (by rw [HL.out]; exact hlt)]; exact List.getElem_mem _)
      rw [drop_nth l k (by rw [HL.out]; exact hlt)] at Ra
      have ca := (row_cell Ra k).trans (valsK_get (by rw [List.length_append, hA]; simp))
      rw [pre_nth _ _ _ _ hA] at ca
      have fa := row_free Ra k
      have HD := Lib.hid (car_step (by rw [HL.out]; exact hlt) hA hd)
      have HS := Lib.hid (row_set (i := k) (v := .int .i64 ((nth l k + c) % 65536)) Ra)
      have HB := Lib.hid Rb
      have HA := Lib.hid hA
      have HN := Lib.hid hN
      clear Ra Rb hd hA hN
      go_wp2
      go_roundw
      case rel =>
        refine ⟨k + 1, (nth l k + c) / 65536, A ++ [(nth l k + c) % 65536], by omega, by go_num, rfl, by simp [HA.out], ?_, by omega, by omega, HD.out, ?_, row_set_other HB.out (by omega), by go_grown⟩
        · intro x hx'
          rw [List.mem_append] at hx'
          rcases hx' with h | h
          · exact HN.out x h
          · rw [List.mem_singleton] at h; subst h; omega
        · refine HS.out.trans ?_
          rw [valsK_set, pre_set _ _ _ _ _ HA.out]
      case measure => simp [intOf]; omega
    · obtain rfl : k = 16 := by omega
      have e16 : A ++ l.drop 16 = A := by rw [List.drop_of_length_le (by rw [HL.out]; omega)]; exact List.append_nil _
      rw [e16] at Ra
      rw [List.take_of_length_le (by rw [HL.out]; omega)] at hd
      have HD := Lib.hid hd
      have HA := Lib.hid hA
      clear hd hA
      go_wp2_with (first | (refine ld_row rfl 100 (.tmp 1) rfl _ (by rfl) _ _ Ra 16 tDig (by rw [valsK_size, HA.out]) ?_) | (refine st_row rfl 100 (.tmp 2) _ rfl _ _ (by rfl) (by rfl) _ _ Rb 16 tDig (by rw [valsK_size, HA.out]) (by rfl) (valsK_one _ _) ?_))
      refine ret_row_tmp rfl _ _ _ rfl (row_put Rb) 16 tDig (by rw [valsK_size, HA.out]) rfl ?_
      exact ⟨A, c, rfl, ⟨HA.out, hN⟩, hc0, HD.out.symm, below_setRow Bk (by omega) _⟩

theorem split_at (a : List Int) (m : Nat) (h : m < a.length) : dnum a = dnum (a.take m) + 65536 ^ m * (nth a m + 65536 * dnum (a.drop (m + 1))) := by
  have hl : (a.take m).length = m := by rw [List.length_take]; omega
  conv => lhs; rw [← List.take_append_drop m a, dnum_append, hl, drop_nth a m h]
  rfl

theorem ahead_at {a b : List Int} {m : Nat} (ha : Norm a) (hb : Norm b) (hm : m < 16) (hd : a.drop (m + 1) = b.drop (m + 1)) (hne : nth a m ≠ nth b m) :
    decide (nth a m < nth b m) = decide (dnum a < dnum b) := by
  have ea := split_at a m (by rw [ha.1]; exact hm)
  have eb := split_at b m (by rw [hb.1]; exact hm)
  have ba := dnum_bound (a.take m) (fun x hx => ha.2 x (List.mem_of_mem_take hx))
  have bb := dnum_bound (b.take m) (fun x hx => hb.2 x (List.mem_of_mem_take hx))
  have la : (a.take m).length = m := by rw [List.length_take, ha.1]; omega
  have lb : (b.take m).length = m := by rw [List.length_take, hb.1]; omega
  rw [la] at ba
  rw [lb] at bb
  rw [hd] at ea
  have hS : (0 : Int) < 65536 ^ m := Int.pow_pos (by omega)
  generalize (65536 : Int) ^ m = S at *
  generalize dnum (b.drop (m + 1)) = C at *
  apply decide_eq_decide.2
  rw [ea, eb, Int.mul_add, Int.mul_add]
  constructor
  · intro h
    have := Int.mul_le_mul_of_nonneg_left (show nth a m + 1 ≤ nth b m by omega) (Int.le_of_lt hS)
    rw [Int.mul_add] at this
    omega
  · intro h
    refine Classical.byContradiction fun hn => ?_
    have := Int.mul_le_mul_of_nonneg_left (show nth b m + 1 ≤ nth a m by omega) (Int.le_of_lt hS)
    rw [Int.mul_add] at this
    omega

set_option maxHeartbeats 1000000 in
set_option maxRecDepth 100000 in
theorem ahead_any (a b : List Int) (w : World) (ha : Norm a) (hb : Norm b) :
    Calls Try.prog 91 #[.agg (valsK .i64 a), .agg (valsK .i64 b)] w fun e w' => e = .returned (.bool (decide (dnum a < dnum b))) ∧ Below w.heap.size w w' := by
  have HA := Lib.hid ha.1
  have HB := Lib.hid hb.1
  go_enter Try.func91, Try.ntmps91
  go_wp2_with fail
  go_loopw [5] (fun i wr => ∃ k : Nat, k ≤ 16 ∧ i = .int .i64 ((k : Int) - 1) ∧ a.drop k = b.drop k ∧ wr.heap[w.heap.size]? = some (.cells (valsK .i64 a) 100 (0, 0)) ∧ wr.heap[w.heap.size + 1]? = some (.cells (valsK .i64 b) 100 (0, 0)) ∧ Below w.heap.size w wr) (fun i _ => (intOf i + 1).toNat)
  case atStart => exact ⟨16, by omega, rfl, by rw [List.drop_of_length_le (by rw [HA.out]; omega), List.drop_of_length_le (by rw [HB.out]; omega)], new2_0 .., new2_1 .., by go_grown⟩
  case round =>
    obtain ⟨k, hk, rfl, hd, Ra, Rb, Bk⟩ := hrel
    by_cases h0 : k = 0
    · subst h0
      have hab : a = b := hd
      have hf : decide (dnum a < dnum b) = false := by rw [hab]; simp
      have HF := Lib.hid hf
      clear hf hab hd
      go_wp2
      go_returns
      exact ⟨by rw [HF.out]; rfl, Bk⟩
    · obtain ⟨m, rfl⟩ : ∃ m, k = m + 1 := ⟨k - 1, by omega⟩
      have ca := (row_cell Ra m).trans (valsK_get (by rw [HA.out]; omega))
      have cb := (row_cell Rb m).trans (valsK_get (by rw [HB.out]; omega))
      have HRa := Lib.hid Ra
      have HRb := Lib.hid Rb
      have HDr := Lib.hid hd
      clear Ra Rb hd
      by_cases he : nth a m = nth b m
      · have hbe : (nth a m != nth b m) = false := by simp [he]
        have he2 := he
        have HE := Lib.hid he
        clear he he2
        go_wp2
        go_quiet (fail)
        go_wp2
        go_roundw
        case rel =>
          refine ⟨m, by omega, by go_num, ?_, ?_, ?_, ?_⟩
          · rw [drop_nth a m (by rw [HA.out]; omega), drop_nth b m (by rw [HB.out]; omega), HE.out, HDr.out]
          · exact HRa.out
          · exact HRb.out
          · exact below_drewN Bk _
        case measure => simp [intOf]
      · have hbe : (nth a m != nth b m) = true := by simp [he]
        have HX := Lib.hid (ahead_at ha hb (by omega) HDr.out he)
        clear he
        go_wp2
        go_quiet (fail)
        go_wp2
        go_quiet (fail)
        go_wp2
        go_returns
        exact ⟨by rw [← HX.out]; rfl, below_drewN (below_drewN Bk _) _⟩

/-- A difference of digits. -/
def LessOut (a b : List Int) (w : World) (e : Ending) (w' : World) : Prop :=
  ∃ L, e = .returned (.agg (valsK .i64 L)) ∧ Norm L ∧ dnum L = dnum a - dnum b ∧ Below w.heap.size w w'

theorem less_step {A a b : List Int} {k : Nat} {c d v : Int} (hk : k < a.length) (hk' : k < b.length) (hA : A.length = k) (h : dnum A - 65536 ^ k * c = dnum (a.take k) - dnum (b.take k))
    (hv : v - 65536 * d = nth a k - nth b k - c) : dnum (A ++ [v]) - 65536 ^ (k + 1) * d = dnum (a.take (k + 1)) - dnum (b.take (k + 1)) := by
  rw [dnum_append, hA, dnum_take a k hk, dnum_take b k hk', Int.pow_succ]
  simp only [dnum]
  grind

theorem less_end {L a b : List Int} {c : Int} (hL : Norm L) (h : dnum L - 65536 ^ 16 * c = dnum a - dnum b) (hle : dnum b ≤ dnum a) (hc : c = 0 ∨ c = 1) : dnum L = dnum a - dnum b := by
  have hb := dnum_bound L hL.2
  rw [hL.1] at hb
  rcases hc with rfl | rfl
  · omega
  · omega

set_option maxHeartbeats 1000000 in
set_option maxRecDepth 100000 in
theorem less_any (a b : List Int) (w : World) (ha : Norm a) (hb : Norm b) (hle : dnum b ≤ dnum a) :
    Calls Try.prog 92 #[.agg (valsK .i64 a), .agg (valsK .i64 b)] w (LessOut a b w) := by
  have HA := Lib.hid ha.1
  have HB := Lib.hid hb.1
  have HLE := Lib.hid hle
  clear hle
  go_enter Try.func92, Try.ntmps92
  go_wp2_with fail
  go_loopw [5, 6, 7] (fun s i _ wr => ∃ (k : Nat) (c : Int) (A : List Int), k ≤ 16 ∧ i = .int .i64 k ∧ s = .int .i64 c ∧ A.length = k ∧ (∀ x ∈ A, 0 ≤ x ∧ x < 65536) ∧ (c = 0 ∨ c = 1) ∧ dnum A - 65536 ^ k * c = dnum (a.take k) - dnum (b.take k) ∧ wr.heap[w.heap.size]? = some (.cells (valsK .i64 (A ++ a.drop k)) 100 (0, 0)) ∧ wr.heap[w.heap.size + 1]? = some (.cells (valsK .i64 b) 100 (0, 0)) ∧ wr.heap[w.heap.size + 2]? = some (.cells (valsK .i64 z16) 100 (0, 0)) ∧ Below w.heap.size w wr) (fun _ i _ _ => 16 - (intOf i).toNat)
  case atStart => exact ⟨0, 0, [], by omega, rfl, rfl, rfl, (fun x hx => by cases hx), by omega, by simp [dnum], new3_0 .., new3_1 .., new3_2 .., by go_grown⟩
  case round =>
    obtain ⟨k, c, A, hk, rfl, rfl, hA, hN, hc, hd, Ra, Rb, Rc, Bk⟩ := hrel
    by_cases hlt : k < 16
    · have xa := ha.nth k
      have xb := hb.nth k
      rw [drop_nth a k (by rw [HA.out]; exact hlt)] at Ra
      have ca := (row_cell Ra k).trans (valsK_get (by rw [List.length_append, hA]; simp))
      rw [pre_nth _ _ _ _ hA] at ca
      have cb := (row_cell Rb k).trans (valsK_get (by rw [HB.out]; exact hlt))
      have fa := row_free Ra k
      have HRa := Lib.hid Ra
      have HRb := Lib.hid Rb
      have HRc := Lib.hid Rc
      have HAl := Lib.hid hA
      have HN := Lib.hid hN
      have HD := Lib.hid hd
      clear Ra Rb Rc hA hN hd
      have hc0 : 0 ≤ c ∧ c ≤ 1 := by omega
      clear hc
      by_cases hneg : nth a k - nth b k - c < 0
      · go_wp2
        go_quiet (fail)
        go_wp2
        go_roundw
        case rel =>
          refine ⟨k + 1, 1, A ++ [nth a k - nth b k - c + 65536], by omega, by go_num, rfl, by simp [HAl.out], ?_, by omega, less_step (by rw [HA.out]; exact hlt) (by rw [HB.out]; exact hlt) HAl.out HD.out (by omega), ?_, ?_, ?_, ?_⟩
          · intro x hx'
            rw [List.mem_append] at hx'
            rcases hx' with h | h
            · exact HN.out x h
            · rw [List.mem_singleton] at h; subst h; omega
          · refine (row_set (i := k) HRa.out).trans ?_
            rw [valsK_set, pre_set _ _ _ _ _ HAl.out]
          · exact row_set_other HRb.out (by omega)
          · exact row_set_other HRc.out (by omega)
          · exact Below.setCell (below_drewN Bk _) (by simp) _
        case measure => simp [intOf]; omega
      · go_wp2
        go_quiet (fail)
        go_wp2
        go_roundw
        case rel =>
          refine ⟨k + 1, 0, A ++ [nth a k - nth b k - c], by omega, by go_num, rfl, by simp [HAl.out], ?_, by omega, less_step (by rw [HA.out]; exact hlt) (by rw [HB.out]; exact hlt) HAl.out HD.out (by omega), ?_, ?_, ?_, ?_⟩
          · intro x hx'
            rw [List.mem_append] at hx'
            rcases hx' with h | h
            · exact HN.out x h
            · rw [List.mem_singleton] at h; subst h; omega
          · refine (row_set (i := k) HRa.out).trans ?_
            rw [valsK_set, pre_set _ _ _ _ _ HAl.out]
          · exact row_set_other HRb.out (by omega)
          · exact row_set_other HRc.out (by omega)
          · exact Below.setCell (below_drewN Bk _) (by simp) _
        case measure => simp [intOf]; omega
    · obtain rfl : k = 16 := by omega
      have e16 : A ++ a.drop 16 = A := by rw [List.drop_of_length_le (by rw [HA.out]; omega)]; exact List.append_nil _
      rw [e16] at Ra
      rw [List.take_of_length_le (by rw [HA.out]; omega), List.take_of_length_le (by rw [HB.out]; omega)] at hd
      have hfin := less_end ⟨hA, hN⟩ hd HLE.out hc
      have HF := Lib.hid hfin
      have HAl := Lib.hid hA
      clear hd hA hfin
      go_wp2_with (first | (refine ld_row rfl 100 (.tmp 2) rfl _ (by rfl) _ _ Ra 16 tDig (by rw [valsK_size, HAl.out]) ?_) | (refine st_row rfl 100 (.tmp 4) _ rfl _ _ (by rfl) (by rfl) _ _ Rc 16 tDig (by rw [valsK_size, HAl.out]) (by rfl) (valsK_one _ _) ?_))
      refine ret_row rfl _ _ _ rfl (row_put Rc) 16 tDig (by rw [valsK_size, HAl.out]) rfl ?_
      exact ⟨A, rfl, ⟨HAl.out, hN⟩, HF.out, below_setRow Bk (by omega) _⟩
end Go.Proofs.Ytciakfhjjnmeeaa
