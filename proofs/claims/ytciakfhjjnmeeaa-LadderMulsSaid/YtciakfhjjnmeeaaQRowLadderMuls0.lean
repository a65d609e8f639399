/- Texts of this proof's own, one behind the other. No condition. -/
import Derived.Test.YtciakfhjjnmeeaaBa0
import Derived.Test.YtciakfhjjnmeeaaBa1
import Derived.Test.YtciakfhjjnmeeaaBa2
import Derived.Test.YtciakfhjjnmeeaaBa3
import Derived.Test.YtciakfhjjnmeeaaBa4
import Derived.Test.YtciakfhjjnmeeaaBa5
namespace Go.Proofs.Ytciakfhjjnmeeaa
open Go.RowKit Nt

theorem tNine : RowT Try.prog 131 16 := ⟨_, Try.underlying131, rfl, by kernel_rfl⟩

/-- What carrying leaves: sixteen digits, and what was beyond them counted 38 times in the first one. -/
def Car9 (l L : List Int) : Prop := ∃ r c, Norm r ∧ dnum r + 65536 ^ 16 * c = dnum l ∧ L = r.set 0 (nth r 0 + 38 * c)

/-- The digits while they are carried. -/
def mid9 (l A : List Int) (c : Int) (k : Nat) : List Int := if k < 16 then A ++ (nth l k + c) :: l.drop (k + 1) else A.set 0 (nth A 0 + 38 * c)

theorem mid_step {l A : List Int} {c d : Int} {k : Nat} (hl : l.length = 16) (hA : A.length = k) (hk : k < 15) (v v2 : Int) (hv2 : v2 = nth l (k + 1) + d) :
    ((mid9 l A c k).set k v).set (k + 1) v2 = mid9 l (A ++ [v]) d (k + 1) := by
  rw [mid9, mid9, if_pos (by omega), if_pos (by omega), pre_set _ _ _ _ _ hA, drop_nth l (k + 1) (by omega), pre_set _ _ _ _ _ (by simp [hA]), hv2, List.append_assoc]
  rfl
theorem mid_last {l A : List Int} {c d : Int} (hl : l.length = 16) (hA : A.length = 15) (v : Int) : ((mid9 l A c 15).set 15 v).set 0 (nth A 0 + 38 * d) = mid9 l (A ++ [v]) d 16 := by
  rw [mid9, mid9, if_pos (by omega), if_neg (by omega), pre_set _ _ _ _ _ hA, List.drop_of_length_le (by omega), List.append_nil]
  have : nth (A ++ [v]) 0 = nth A 0 := by
    cases A with
    | nil => simp at hA
    | cons x r => rfl
  rw [this]
theorem mid_len {l A : List Int} {c : Int} {k : Nat} (hl : l.length = 16) (hA : A.length = k) (hk : k ≤ 16) : (mid9 l A c k).length = 16 := by
  rw [mid9]
  split
  · simp [hA, hl]; omega
  · simp [hA]; omega
theorem mid_at {l A : List Int} {c : Int} {k : Nat} (hA : A.length = k) (hk : k < 16) : nth (mid9 l A c k) k = nth l k + c := by
  rw [mid9, if_pos hk, pre_nth _ _ _ _ hA]
theorem mid_next {l A : List Int} {c : Int} {k : Nat} (hl : l.length = 16) (hA : A.length = k) (hk : k < 15) : nth (mid9 l A c k) (k + 1) = nth l (k + 1) := by
  rw [mid9, if_pos (by omega), drop_nth l (k + 1) (by omega)]
  have e : A ++ (nth l k + c) :: nth l (k + 1) :: l.drop (k + 1 + 1) = (A ++ [nth l k + c]) ++ nth l (k + 1) :: l.drop (k + 1 + 1) := by simp
  rw [e, pre_nth _ _ _ _ (by simp [hA])]
theorem mid_zero {l A : List Int} {c : Int} (hA : A.length = 15) : nth (mid9 l A c 15) 0 = nth A 0 := by
  rw [mid9, if_pos (by omega)]
  cases A with
  | nil => simp at hA
  | cons x r => rfl

set_option maxHeartbeats 1000000 in
set_option maxRecDepth 100000 in
theorem carry9_any (l : List Int) (w : World) (hl : l.length = 16) (hb : ∀ x ∈ l, -36028797018963968 ≤ x ∧ x ≤ 36028797018963968) :
    Calls Try.prog 119 #[.agg (valsK .i64 l)] w fun e w' => ∃ L, e = .returned (.agg (valsK .i64 L)) ∧ Car9 l L ∧ Below w.heap.size w w' := by
  have HL := Lib.hid hl
  have HBD := Lib.hid hb
  clear hl hb
  go_enter Try.func119, Try.ntmps119
  go_wp2_with fail
  go_loopw [3] (fun i wr => ∃ (k : Nat) (c : Int) (A : List Int), k ≤ 16 ∧ i = .int .i64 k ∧ A.length = k ∧ (∀ x ∈ A, 0 ≤ x ∧ x < 65536) ∧ (-1099511627776 ≤ c ∧ c ≤ 1099511627776) ∧ dnum A + 65536 ^ k * c = dnum (l.take k) ∧ wr.heap[w.heap.size]? = some (.cells (valsK .i64 (mid9 l A c k)) 131 (0, 0)) ∧ wr.heap[w.heap.size + 1]? = some (.cells (valsK .i64 z16) 131 (0, 0)) ∧ Below w.heap.size w wr) (fun i _ => 16 - (intOf i).toNat)
  case atStart => exact ⟨0, 0, [], by omega, rfl, rfl, (fun x hx => by cases hx), by omega, by simp [dnum], by rw [show mid9 l [] 0 0 = l from by rw [mid9, if_pos (by omega)]; show (nth l 0 + 0) :: l.drop 1 = l; rw [Int.add_zero, ← drop_nth l 0 (by rw [HL.out]; omega)]; rfl]; exact new2_0 .., new2_1 .., by go_grown⟩
  case round =>
    obtain ⟨k, c, A, hk, rfl, hA, hN, hc, hd, Ra, Rb, Bk⟩ := hrel
    by_cases hlt : k < 16
    · have hx := HBD.out (nth l k) (by rw [nth_get (by rw [HL.out]; exact hlt)]; exact List.getElem_mem _)
      have hml := mid_len (c := c) HL.out hA (by omega)
      have ca := (row_cell Ra k).trans (valsK_get (by rw [hml]; exact hlt))
      rw [mid_at hA hlt] at ca
      have fa := row_free Ra
      have HD := Lib.hid (car_step (by rw [HL.out]; exact hlt) hA hd)
      have e1 : nth l k + c - (nth l k + c) / 65536 * 65536 = (nth l k + c) % 65536 := by have := Int.mul_ediv_add_emod (nth l k + c) 65536; omega
      have HN2 := Lib.hid (show ∀ x ∈ A ++ [nth l k + c - (nth l k + c) / 65536 * 65536], 0 ≤ x ∧ x < 65536 from fun x hx' => by
        rw [List.mem_append] at hx'
        rcases hx' with h | h
        · exact hN x h
        · rw [List.mem_singleton] at h; rw [h, e1]; omega)
      have HB := Lib.hid Rb
      have HA := Lib.hid hA
      rw [← e1] at HD
      have hcd : -1099511627776 ≤ (nth l k + c) / 65536 ∧ (nth l k + c) / 65536 ≤ 1099511627776 := by omega
      have HCD := Lib.hid hcd
      by_cases h15 : k < 15
      · have cb := (row_cell Ra (k + 1)).trans (valsK_get (by rw [hml]; omega))
        rw [mid_next HL.out hA h15] at cb
        have hy := HBD.out (nth l (k + 1)) (by rw [nth_get (by rw [HL.out]; omega)]; exact List.getElem_mem _)
        have S2 := row_set (i := k + 1) (v := .int .i64 (nth l (k + 1) + (nth l k + c) / 65536)) (row_set (i := k) (v := .int .i64 (nth l k + c - (nth l k + c) / 65536 * 65536)) Ra)
        rw [valsK_set, valsK_set, mid_step HL.out hA h15 _ _ rfl] at S2
        have HS := Lib.hid S2
        clear Ra Rb hd hA hN S2 e1 hml
        generalize nth l k + c = q at *
        go_wp2_with fail
        go_roundw
        case rel => exact ⟨k + 1, q / 65536, A ++ [q - q / 65536 * 65536], by omega, by go_num, by simp [HA.out], HN2.out, HCD.out, HD.out, HS.out, row_set_other (row_set_other HB.out (by omega)) (by omega), by go_grown⟩
        case measure => simp [intOf]; omega
      · obtain rfl : k = 15 := by omega
        have cb := (row_cell Ra 0).trans (valsK_get (by rw [hml]; omega))
        rw [mid_zero hA] at cb
        have hy := hN (nth A 0) (by rw [nth_get (by omega)]; exact List.getElem_mem _)
        have S2 := row_set (i := 0) (v := .int .i64 (nth A 0 + 38 * ((nth l 15 + c) / 65536))) (row_set (i := 15) (v := .int .i64 (nth l 15 + c - (nth l 15 + c) / 65536 * 65536)) Ra)
        rw [valsK_set, valsK_set, mid_last HL.out hA] at S2
        have HS := Lib.hid S2
        clear Ra Rb hd hA hN S2 e1 hml
        generalize nth l 15 + c = q at *
        generalize nth A 0 = a0 at *
        go_wp2_with fail
        go_roundw
        case rel => exact ⟨16, q / 65536, A ++ [q - q / 65536 * 65536], by omega, rfl, by simp [HA.out], HN2.out, HCD.out, HD.out, HS.out, row_set_other (row_set_other HB.out (by omega)) (by omega), by go_grown⟩
        case measure => simp [intOf]
    · obtain rfl : k = 16 := by omega
      rw [List.take_of_length_le (by rw [HL.out]; omega)] at hd
      have hml := mid_len (c := c) HL.out hA (by omega)
      have e16 : mid9 l A c 16 = A.set 0 (nth A 0 + 38 * c) := by rw [mid9, if_neg (by omega)]
      have HC9 := Lib.hid (show Car9 l (mid9 l A c 16) from ⟨A, c, ⟨hA, hN⟩, hd, e16⟩)
      have HML := Lib.hid hml
      clear hd hA hN e16 hml
      generalize mid9 l A c 16 = L at *
      go_wp2_with (first | (refine ld_row rfl 131 (.tmp 1) rfl _ (by rfl) _ _ Ra 16 tNine (by rw [valsK_size, HML.out]) ?_) | (refine st_row rfl 131 (.tmp 2) _ rfl _ _ (by rfl) (by rfl) _ _ Rb 16 tNine (by rw [valsK_size, HML.out]) (by rfl) (valsK_one _ _) ?_))
      refine ret_row rfl _ _ _ rfl (row_put Rb) 16 tNine (by rw [valsK_size, HML.out]) rfl ?_
      exact ⟨L, rfl, HC9.out, below_setRow Bk (by omega) _⟩
end Go.Proofs.Ytciakfhjjnmeeaa

namespace Go.Proofs.Ytciakfhjjnmeeaa
open Go.RowKit Nt

theorem dnum_zip (f : Int → Int → Int) (s : Int) (hf : ∀ x y, f x y = x + s * y) : ∀ a b : List Int, a.length = b.length → dnum (List.zipWith f a b) = dnum a + s * dnum b
  | [], [], _ => by simp [dnum]
  | x :: a, y :: b, h => by
    have ih := dnum_zip f s hf a b (by simpa using h)
    simp only [List.zipWith_cons_cons, dnum, ih, hf]
    grind
  | [], _ :: _, h => by simp at h
  | _ :: _, [], h => by simp at h
theorem nth_zip (f : Int → Int → Int) (a b : List Int) (k : Nat) (ha : k < a.length) (hb : k < b.length) : nth (List.zipWith f a b) k = f (nth a k) (nth b k) := by
  rw [nth_get ha, nth_get hb, nth_get (by simp; omega), List.getElem_zipWith]
def addL (a b : List Int) : List Int := List.zipWith (fun x y => x + y) a b
def subL (a b : List Int) : List Int := List.zipWith (fun x y => x - y) a b
theorem addL_num {a b : List Int} (h : a.length = b.length) : dnum (addL a b) = dnum a + dnum b := by rw [addL, dnum_zip _ 1 (fun x y => by omega) a b h]; omega
theorem subL_num {a b : List Int} (h : a.length = b.length) : dnum (subL a b) = dnum a - dnum b := by rw [subL, dnum_zip _ (-1) (fun x y => by omega) a b h]; omega

set_option maxHeartbeats 1000000 in
set_option maxRecDepth 100000 in
theorem plus9_any (a b : List Int) (w : World) (ha : a.length = 16) (hb : b.length = 16) (ba : ∀ x ∈ a, -1099511627776 ≤ x ∧ x ≤ 1099511627776) (bb : ∀ x ∈ b, -1099511627776 ≤ x ∧ x ≤ 1099511627776) :
    Calls Try.prog 117 #[.agg (valsK .i64 a), .agg (valsK .i64 b)] w (Gives (· = .agg (valsK .i64 (addL a b))) w) := by
  have HA := Lib.hid ha
  have HB := Lib.hid hb
  have HT := Lib.hid (show (addL a b).length = 16 by simp [addL, ha, hb])
  have HBA := Lib.hid ba
  have HBB := Lib.hid bb
  clear ha hb ba bb
  go_enter Try.func117, Try.ntmps117
  go_wp2_with fail
  go_loopw [5] (fun i wr => ∃ k : Nat, k ≤ 16 ∧ i = .int .i64 k ∧ wr.heap[w.heap.size]? = some (.cells (valsK .i64 ((addL a b).take k ++ a.drop k)) 131 (0, 0)) ∧ wr.heap[w.heap.size + 1]? = some (.cells (valsK .i64 b) 131 (0, 0)) ∧ wr.heap[w.heap.size + 2]? = some (.cells (valsK .i64 z16) 131 (0, 0)) ∧ Below w.heap.size w wr) (fun i _ => 16 - (intOf i).toNat)
  case atStart => exact ⟨0, by omega, rfl, by rw [List.take_zero, List.nil_append, List.drop_zero]; exact new3_0 .., new3_1 .., new3_2 .., by go_grown⟩
  case round =>
    obtain ⟨k, hk, rfl, Ra, Rb, Rc, Bk⟩ := hrel
    by_cases hlt : k < 16
    · have ca := (row_cell Ra k).trans (valsK_get (by rw [fill_len _ _ _ (by rw [HT.out, HA.out]) (by rw [HT.out]; omega), HA.out]; exact hlt))
      rw [fill_rest _ _ _ _ (Nat.le_refl _) (by rw [HT.out]; omega)] at ca
      have fa := row_free Ra k
      have cb := (row_cell Rb k).trans (valsK_get (by rw [HB.out]; exact hlt))
      have hx := HBA.out (nth a k) (by rw [nth_get (by rw [HA.out]; exact hlt)]; exact List.getElem_mem _)
      have hy := HBB.out (nth b k) (by rw [nth_get (by rw [HB.out]; exact hlt)]; exact List.getElem_mem _)
      have S2 := row_set (i := k) (v := .int .i64 (nth a k + nth b k)) Ra
      rw [valsK_set, show nth a k + nth b k = nth (addL a b) k from (nth_zip _ a b k (by rw [HA.out]; exact hlt) (by rw [HB.out]; exact hlt)).symm, fill_step _ _ _ (by rw [HT.out]; exact hlt) (by rw [HT.out, HA.out])] at S2
      have e2 : nth a k + nth b k = nth (addL a b) k := (nth_zip _ a b k (by rw [HA.out]; exact hlt) (by rw [HB.out]; exact hlt)).symm
      have HS := Lib.hid S2
      have HE := Lib.hid e2
      have H2 := Lib.hid Rb
      have H3 := Lib.hid Rc
      clear Ra Rb Rc S2 e2
      generalize nth a k = x at *
      generalize nth b k = y at *
      go_wp2
      go_region
      go_wp2
      go_roundw
      case rel => exact ⟨k + 1, by omega, by go_num, by rw [HE.out]; exact HS.out, row_set_other H2.out (by omega), row_set_other H3.out (by omega), by go_grown⟩
      case measure => simp [intOf]; omega
    · obtain rfl : k = 16 := by omega
      have e16 : (addL a b).take 16 ++ a.drop 16 = addL a b := by rw [List.take_of_length_le (by rw [HT.out]; omega), List.drop_of_length_le (by rw [HA.out]; omega), List.append_nil]
      rw [e16] at Ra
      generalize hLL : addL a b = L at *
      have HLL := Lib.hid hLL
      clear hLL
      go_wp2_with (first | (refine ld_row rfl 131 (.tmp 2) rfl _ (by rfl) _ _ Ra 16 tNine (by rw [valsK_size, HT.out]) ?_) | (refine st_row rfl 131 (.tmp 4) _ rfl _ _ (by rfl) (by rfl) _ _ Rc 16 tNine (by rw [valsK_size, HT.out]) (by rfl) (valsK_one _ _) ?_))
      refine ret_row rfl _ _ _ rfl (row_put Rc) 16 tNine (by rw [valsK_size, HT.out]) rfl ?_
      exact ⟨_, rfl, congrArg (fun z => Value.agg (valsK .i64 z)) HLL.out.symm, below_setRow Bk (by omega) _⟩

set_option maxHeartbeats 1000000 in
set_option maxRecDepth 100000 in
theorem minus9_any (a b : List Int) (w : World) (ha : a.length = 16) (hb : b.length = 16) (ba : ∀ x ∈ a, -1099511627776 ≤ x ∧ x ≤ 1099511627776) (bb : ∀ x ∈ b, -1099511627776 ≤ x ∧ x ≤ 1099511627776) :
    Calls Try.prog 118 #[.agg (valsK .i64 a), .agg (valsK .i64 b)] w (Gives (· = .agg (valsK .i64 (subL a b))) w) := by
  have HA := Lib.hid ha
  have HB := Lib.hid hb
  have HT := Lib.hid (show (subL a b).length = 16 by simp [subL, ha, hb])
  have HBA := Lib.hid ba
  have HBB := Lib.hid bb
  clear ha hb ba bb
  go_enter Try.func118, Try.ntmps118
  go_wp2_with fail
  go_loopw [5] (fun i wr => ∃ k : Nat, k ≤ 16 ∧ i = .int .i64 k ∧ wr.heap[w.heap.size]? = some (.cells (valsK .i64 ((subL a b).take k ++ a.drop k)) 131 (0, 0)) ∧ wr.heap[w.heap.size + 1]? = some (.cells (valsK .i64 b) 131 (0, 0)) ∧ wr.heap[w.heap.size + 2]? = some (.cells (valsK .i64 z16) 131 (0, 0)) ∧ Below w.heap.size w wr) (fun i _ => 16 - (intOf i).toNat)
  case atStart => exact ⟨0, by omega, rfl, by rw [List.take_zero, List.nil_append, List.drop_zero]; exact new3_0 .., new3_1 .., new3_2 .., by go_grown⟩
  case round =>
    obtain ⟨k, hk, rfl, Ra, Rb, Rc, Bk⟩ := hrel
    by_cases hlt : k < 16
    · have ca := (row_cell Ra k).trans (valsK_get (by rw [fill_len _ _ _ (by rw [HT.out, HA.out]) (by rw [HT.out]; omega), HA.out]; exact hlt))
      rw [fill_rest _ _ _ _ (Nat.le_refl _) (by rw [HT.out]; omega)] at ca
      have fa := row_free Ra k
      have cb := (row_cell Rb k).trans (valsK_get (by rw [HB.out]; exact hlt))
      have hx := HBA.out (nth a k) (by rw [nth_get (by rw [HA.out]; exact hlt)]; exact List.getElem_mem _)
      have hy := HBB.out (nth b k) (by rw [nth_get (by rw [HB.out]; exact hlt)]; exact List.getElem_mem _)
      have S2 := row_set (i := k) (v := .int .i64 (nth a k - nth b k)) Ra
      rw [valsK_set, show nth a k - nth b k = nth (subL a b) k from (nth_zip _ a b k (by rw [HA.out]; exact hlt) (by rw [HB.out]; exact hlt)).symm, fill_step _ _ _ (by rw [HT.out]; exact hlt) (by rw [HT.out, HA.out])] at S2
      have e2 : nth a k - nth b k = nth (subL a b) k := (nth_zip _ a b k (by rw [HA.out]; exact hlt) (by rw [HB.out]; exact hlt)).symm
      have HS := Lib.hid S2
      have HE := Lib.hid e2
      have H2 := Lib.hid Rb
      have H3 := Lib.hid Rc
      clear Ra Rb Rc S2 e2
      generalize nth a k = x at *
      generalize nth b k = y at *
      go_wp2
      go_region
      go_wp2
      go_roundw
      case rel => exact ⟨k + 1, by omega, by go_num, by rw [HE.out]; exact HS.out, row_set_other H2.out (by omega), row_set_other H3.out (by omega), by go_grown⟩
      case measure => simp [intOf]; omega
    · obtain rfl : k = 16 := by omega
      have e16 : (subL a b).take 16 ++ a.drop 16 = subL a b := by rw [List.take_of_length_le (by rw [HT.out]; omega), List.drop_of_length_le (by rw [HA.out]; omega), List.append_nil]
      rw [e16] at Ra
      generalize hLL : subL a b = L at *
      have HLL := Lib.hid hLL
      clear hLL
      go_wp2_with (first | (refine ld_row rfl 131 (.tmp 2) rfl _ (by rfl) _ _ Ra 16 tNine (by rw [valsK_size, HT.out]) ?_) | (refine st_row rfl 131 (.tmp 4) _ rfl _ _ (by rfl) (by rfl) _ _ Rc 16 tNine (by rw [valsK_size, HT.out]) (by rfl) (valsK_one _ _) ?_))
      refine ret_row rfl _ _ _ rfl (row_put Rc) 16 tNine (by rw [valsK_size, HT.out]) rfl ?_
      exact ⟨_, rfl, congrArg (fun z => Value.agg (valsK .i64 z)) HLL.out.symm, below_setRow Bk (by omega) _⟩

def smallL (x : Int) : List Int := x :: List.replicate 15 0
theorem smallL_num (x : Int) : dnum (smallL x) = x := by
  have e : dnum (smallL x) = x + 65536 * dnum (List.replicate 15 0) := rfl
  have e2 : dnum (List.replicate 15 0) = 0 := by decide
  rw [e, e2]; omega
theorem valsK_set_z (x : Int) : (valsK .i64 z16).setIfInBounds 0 (.int .i64 x) = valsK .i64 (smallL x) := by rw [valsK_set]; rfl

set_option maxHeartbeats 1000000 in
set_option maxRecDepth 100000 in
theorem small9_any (x : Int) (w : World) : Calls Try.prog 116 #[.int .i64 x] w (Gives (· = .agg (valsK .i64 (smallL x))) w) := by
  go_enter Try.func116, Try.ntmps116
  go_wp2_with fail
  refine ret_row rfl _ _ _ rfl (new2_0 ..) 16 tNine (by rfl) rfl ?_
  exact ⟨_, rfl, rfl, by go_grown⟩

def f16 : List Int := List.replicate 16 65535
theorem f16_nth (k : Nat) (h : k < 16) : nth f16 k = 65535 := by rw [nth_get (by exact h)]; exact List.getElem_replicate _
/-- The digits of 2^255 - 19. -/
def primeL : List Int := (f16.set 0 65517).set 15 32767
theorem primeL_num : dnum primeL = 57896044618658097711785492504343953926634992332820282019728792003956564819949 := by decide

set_option maxHeartbeats 1000000 in
set_option maxRecDepth 100000 in
theorem prime9_any (w : World) : Calls Try.prog 121 #[] w (Gives (· = .agg (valsK .i64 primeL)) w) := by
  go_enter Try.func121, Try.ntmps121
  go_wp2_with fail
  go_loopw [2] (fun i wr => ∃ k : Nat, k ≤ 16 ∧ i = .int .i64 k ∧ wr.heap[w.heap.size]? = some (.cells (valsK .i64 z16) 131 (0, 0)) ∧ wr.heap[w.heap.size + 1]? = some (.cells (valsK .i64 (f16.take k ++ z16.drop k)) 131 (0, 0)) ∧ Below w.heap.size w wr) (fun i _ => 16 - (intOf i).toNat)
  case atStart => exact ⟨0, by omega, rfl, new2_0 .., new2_1 .., by go_grown⟩
  case round =>
    obtain ⟨k, hk, rfl, Ra, Rb, Bk⟩ := hrel
    by_cases hlt : k < 16
    · have cz := (row_cell Rb k).trans (valsK_get (by rw [fill_len f16 z16 k rfl hk]; exact hlt))
      have fc := row_free Rb k
      have HS := Lib.hid (row_set (i := k) (v := .int .i64 65535) Rb)
      have HA := Lib.hid Ra
      clear Ra Rb
      go_wp2
      go_roundw
      case rel =>
        refine ⟨k + 1, by omega, by go_num, row_set_other HA.out (by omega), ?_, by go_grown⟩
        refine HS.out.trans ?_
        rw [valsK_set, ← f16_nth k hlt, fill_step f16 z16 k hlt rfl]
      case measure => simp [intOf]; omega
    · obtain rfl : k = 16 := by omega
      have c0 := (row_cell Rb 0).trans (valsK_get (by decide))
      have c15 := (row_cell Rb 15).trans (valsK_get (by decide))
      have ff := row_free Rb
      have HA := Lib.hid Ra
      have R2 := row_set (i := 15) (v := .int .i64 32767) (row_set (i := 0) (v := .int .i64 65517) Rb)
      rw [valsK_set, valsK_set] at R2
      have HR := Lib.hid R2
      clear Ra Rb R2
      go_wp2_with (first | (refine ld_row rfl 131 (.tmp 1) rfl _ (by rfl) _ _ HR.out 16 tNine (by rw [valsK_size]; rfl) ?_) | (refine st_row rfl 131 (.tmp 0) _ rfl _ _ (by rfl) (by rfl) _ _ (row_set_other (row_set_other HA.out (by omega)) (by omega)) 16 tNine (by rw [valsK_size]; rfl) (by rfl) (valsK_one _ _) ?_))
      refine ret_row rfl _ _ _ rfl (row_put (row_set_other (row_set_other HA.out (by omega)) (by omega))) 16 tNine (by rw [valsK_size]; rfl) rfl ?_
      exact ⟨_, rfl, rfl, below_setRow (by go_grown) (by omega) _⟩

/-- The digits of 32 bytes, without the highest bit. -/
def ofL (l : List Int) : List Int := (dgs l).set 15 (nth (dgs l) 15 % 32768)

set_option maxHeartbeats 1000000 in
set_option maxRecDepth 100000 in
theorem of9_any (l : List Int) (w : World) (hl : l.length = 32) (hb : Byt l) :
    Calls Try.prog 115 #[.agg (vals l)] w (Gives (· = .agg (valsK .i64 (ofL l))) w) := by
  have HL := Lib.hid hl
  have hD := dgs_norm l hl hb
  have HD := Lib.hid hD.1
  have h15 := hD.nth 15
  have H15 := Lib.hid h15
  clear hl hD h15
  go_enter Try.func115, Try.ntmps115
  go_wp2_with fail
  go_loopw [4] (fun i wr => ∃ k : Nat, k ≤ 16 ∧ i = .int .i64 k ∧ wr.heap[w.heap.size]? = some (.cells (vals l) 22 (0, 0)) ∧ wr.heap[w.heap.size + 1]? = some (.cells (valsK .i64 z16) 131 (0, 0)) ∧ wr.heap[w.heap.size + 2]? = some (.cells (valsK .i64 ((dgs l).take k ++ z16.drop k)) 131 (0, 0)) ∧ Below w.heap.size w wr) (fun i _ => 16 - (intOf i).toNat)
  case atStart =>
    exact ⟨0, by omega, rfl, new3_0 .., new3_1 .., new3_2 .., by go_grown⟩
  case round =>
    obtain ⟨k, hk, rfl, Ra, Rb, Rc, Bk⟩ := hrel
    by_cases hlt : k < 16
    · have c0 := (row_cell Ra (2 * k)).trans (vals_get (by rw [HL.out]; omega))
      have c1 := (row_cell Ra (2 * k + 1)).trans (vals_get (by rw [HL.out]; omega))
      have cz := (row_cell Rc k).trans (valsK_get (by rw [fill_len _ _ _ (by rw [HD.out]; rfl) (by rw [HD.out]; omega)]; exact hlt))
      have fc := row_free Rc k
      have b0 := hb.nth (2 * k)
      have b1 := hb.nth (2 * k + 1)
      have HS := Lib.hid (row_set (i := k) (v := .int .i64 (nth l (2 * k) + 256 * nth l (2 * k + 1))) Rc)
      have HA := Lib.hid Ra
      have HB := Lib.hid Rb
      clear Ra Rb Rc
      go_wp2
      go_region
      go_wp2
      go_roundw
      case rel =>
        refine ⟨k + 1, by omega, by go_num, row_set_other HA.out (by omega), row_set_other HB.out (by omega), ?_, by go_grown⟩
        refine HS.out.trans ?_
        rw [valsK_set, ← dgs_nth k l (by rw [HL.out]; omega), fill_step _ _ _ (by rw [HD.out]; omega) (by rw [HD.out]; rfl)]
      case measure => simp [intOf]; omega
    · obtain rfl : k = 16 := by omega
      have e16 : (dgs l).take 16 ++ z16.drop 16 = dgs l := by rw [List.take_of_length_le (by rw [HD.out]; omega)]; exact List.append_nil _
      rw [e16] at Rc
      have c15 := (row_cell Rc 15).trans (valsK_get (by rw [HD.out]; omega))
      have f15 := row_free Rc 15
      have h15 := H15.out
      have R2 := row_set (i := 15) (v := .int .i64 (nth (dgs l) 15 % 32768)) Rc
      rw [valsK_set] at R2
      have hT : (ofL l).length = 16 := by rw [ofL, List.length_set, HD.out]
      have HT := Lib.hid hT
      have HR := Lib.hid (show _ = some (Obj.cells (valsK .i64 (ofL l)) 131 (0, 0)) from R2)
      have HRb := Lib.hid (row_set_other (i := 15) (v := .int .i64 (nth (dgs l) 15 % 32768)) (g := w.heap.size + 2) Rb (by omega))
      have HBk := Lib.hid (show Below w.heap.size w (wr.setCell ⟨w.heap.size + 2, 15, none⟩ (.int .i64 (nth (dgs l) 15 % 32768))) from by go_grown)
      have t15 : (nth (dgs l) 15).tmod 32768 = nth (dgs l) 15 % 32768 := Int.tmod_eq_emod_of_nonneg h15.1
      clear Ra Rb Rc R2 hT Bk
      generalize hLL : ofL l = L at *
      have HLL := Lib.hid hLL
      clear hLL
      generalize nth (dgs l) 15 = x at *
      go_wp2_with (first | (refine ld_row rfl 131 (.tmp 3) rfl _ (by rfl) _ _ HR.out 16 tNine (by rw [valsK_size, HT.out]) ?_) | (refine st_row rfl 131 (.tmp 2) _ rfl _ _ (by rfl) (by rfl) _ _ HRb.out 16 tNine (by rw [valsK_size, HT.out]) (by rfl) (valsK_one _ _) ?_))
      refine ret_row rfl _ _ _ rfl (row_put HRb.out) 16 tNine (by rw [valsK_size, HT.out]) rfl ?_
      exact ⟨_, rfl, congrArg (fun z => Value.agg (valsK .i64 z)) HLL.out.symm, below_setRow HBk.out (by omega) _⟩

set_option maxHeartbeats 1000000 in
set_option maxRecDepth 100000 in
theorem clamp9_any (L : List Int) (w : World) (hl : L.length = 32) (hb : Byt L) : Calls Try.prog 52 #[.agg (vals L)] w (Gives (· = .agg (vals (clampL L))) w) := by
  have hcl := Lib.hid ((clampL_len L).trans hl)
  have b0 := hb.nth 0
  have b31 := hb.nth 31
  have a0 : (nth L 0).tdiv 8 = nth L 0 / 8 := Int.tdiv_eq_ediv_of_nonneg b0.1
  have a31 : (nth L 31).tmod 64 = nth L 31 % 64 := Int.tmod_eq_emod_of_nonneg b31.1
  have v0 : (vals L)[0]? = some (.int .u8 (nth L 0)) := vals_get (by omega)
  have s0 : (vals L).setIfInBounds 0 (.int .u8 (nth L 0 / 8 * 8)) = vals (L.set 0 (nth L 0 / 8 * 8)) := vals_set _ _ _
  have v31 : (vals (L.set 0 (nth L 0 / 8 * 8)))[31]? = some (.int .u8 (nth L 31)) := by
    rw [vals_get (by rw [List.length_set]; omega)]
    simp [nth]
  have s31 : (vals (L.set 0 (nth L 0 / 8 * 8))).setIfInBounds 31 (.int .u8 (nth L 31 % 64 + 64)) = vals (clampL L) := vals_set _ _ _
  clear hl hb
  generalize L.set 0 (nth L 0 / 8 * 8) = L1 at *
  generalize nth L 0 = x0 at *
  generalize nth L 31 = x31 at *
  generalize clampL L = L2 at *
  go_enter Try.func52, Try.ntmps52
  go_wp2_with (first | (refine ld_row rfl 68 (.tmp 1) rfl _ (by rfl) _ _ (new2_0 ..) 32 tKey (by rw [vals_size, hcl.out]) ?_) | (refine st_row rfl 68 (.tmp 2) _ rfl _ _ (by rfl) (by rfl) _ _ (new2_1 ..) 32 tKey (by rw [vals_size, hcl.out]) (by rfl) (vals_one _) ?_))
  refine ret_row rfl _ _ _ rfl (row_put (new2_1 ..)) 32 tKey (by rw [vals_size, hcl.out]) rfl ?_
  exact ⟨_, rfl, rfl, below_setRow (by go_grown) (by omega) _⟩
end Go.Proofs.Ytciakfhjjnmeeaa

namespace Go.Proofs.Ytciakfhjjnmeeaa
open Nt

theorem dnum_abs : ∀ (l : List Int) (B : Int), 0 ≤ B → (∀ x ∈ l, -B ≤ x ∧ x ≤ B) → -(B * (65536 ^ l.length - 1)) ≤ 65535 * dnum l ∧ 65535 * dnum l ≤ B * (65536 ^ l.length - 1)
  | [], B, hB, _ => by simp [dnum]
  | x :: r, B, hB, h => by
    have hx := h x (by simp)
    have ih := dnum_abs r B hB (fun y hy => h y (by simp [hy]))
    simp only [dnum, List.length_cons, Int.pow_succ]
    generalize (65536 : Int) ^ r.length = S at *
    have e : B * (S * 65536 - 1) = 65536 * (B * (S - 1)) + 65535 * B := by grind
    rw [e]
    generalize B * (S - 1) = T at *
    omega

/-- A tight list of the number n: normal digits but for the first. -/
def Tg (n : F) (l : List Int) : Prop := l.length = 16 ∧ (∀ j, 1 ≤ j → j < 16 → 0 ≤ nth l j ∧ nth l j < 65536) ∧ (-38 ≤ nth l 0 ∧ nth l 0 ≤ 65573) ∧ dnum l % PI = (n.val : Int)
/-- A wide one. -/
def Wide9 (n : F) (l : List Int) : Prop := l.length = 16 ∧ (∀ j, -131146 ≤ nth l j ∧ nth l j ≤ 131146) ∧ dnum l % PI = (n.val : Int)

theorem nth_past (l : List Int) (j : Nat) (h : l.length ≤ j) : nth l j = 0 := by simp [nth, List.getElem?_eq_none h]
theorem mem_nth {l : List Int} {x : Int} (h : x ∈ l) : ∃ j, j < l.length ∧ nth l j = x := by
  obtain ⟨j, hj, rfl⟩ := List.getElem_of_mem h
  exact ⟨j, hj, nth_get hj⟩
theorem Wide9.mem {n : F} {l : List Int} (h : Wide9 n l) : ∀ x ∈ l, -131146 ≤ x ∧ x ≤ 131146 := fun x hx => by
  obtain ⟨j, _, rfl⟩ := mem_nth hx; exact h.2.1 j
theorem Tg.wide {n : F} {l : List Int} (h : Tg n l) : Wide9 n l := ⟨h.1, fun j => by
  by_cases h0 : j = 0
  · subst h0; have := h.2.2.1; omega
  · by_cases hj : j < 16
    · have := h.2.1 j (by omega) hj; omega
    · rw [nth_past l j (by rw [h.1]; omega)]; omega, h.2.2.2⟩
theorem Tg.mem {n : F} {l : List Int} (h : Tg n l) : ∀ x ∈ l, -38 ≤ x ∧ x ≤ 65573 := fun x hx => by
  obtain ⟨j, hj, rfl⟩ := mem_nth hx
  rw [h.1] at hj
  by_cases h0 : j = 0
  · subst h0; exact h.2.2.1
  · have := h.2.1 j (by omega) hj; omega

theorem pow16 : (65536 : Int) ^ 16 = 115792089237316195423570985008687907853269984665640564039457584007913129639936 := by decide
theorem norm_bound {r : List Int} (h : Norm r) : 0 ≤ dnum r ∧ dnum r < 115792089237316195423570985008687907853269984665640564039457584007913129639936 := by
  have := dnum_bound r h.2
  rw [h.1, pow16] at this
  exact this
theorem dnum_put0 (r : List Int) (h : r.length = 16) (v : Int) : dnum (r.set 0 v) = dnum r + (v - nth r 0) := by
  have := dnum_set r 0 v (by omega)
  simpa using this
theorem Car9.num {l L : List Int} (h : Car9 l L) : dnum L % PI = dnum l % PI := by
  obtain ⟨r, c, hr, hd, rfl⟩ := h
  rw [dnum_put0 _ hr.1, ← hd, pow16]
  have e : dnum r + (nth r 0 + 38 * c - nth r 0) = dnum r + 115792089237316195423570985008687907853269984665640564039457584007913129639936 * c + PI * (-2 * c) := by simp only [PI]; omega
  rw [e, Int.add_mul_emod_self_left]
theorem Car9.len {l L : List Int} (h : Car9 l L) : L.length = 16 := by
  obtain ⟨r, c, hr, hd, rfl⟩ := h
  rw [List.length_set, hr.1]
theorem set0_nth (r : List Int) (v : Int) (h : r.length = 16) : nth (r.set 0 v) 0 = v ∧ ∀ j, 1 ≤ j → nth (r.set 0 v) j = nth r j := by
  refine ⟨nth_set_self r 0 v (by omega), fun j hj => ?_⟩
  rw [nth_set r 0 j v (by omega), if_neg (by omega)]

/-- What one carrying leaves. -/
theorem Car9.once {l L : List Int} (h : Car9 l L) (hl : l.length = 16) (hb : ∀ x ∈ l, -36028797018963968 ≤ x ∧ x ≤ 36028797018963968) :
    (∀ j, 1 ≤ j → j < 16 → 0 ≤ nth L j ∧ nth L j < 65536) ∧ (-41782000000000 ≤ nth L 0 ∧ nth L 0 ≤ 41782000000000) ∧ (∀ x ∈ L, -36028797018963968 ≤ x ∧ x ≤ 36028797018963968) ∧
      -41782000000000 ≤ dnum L ∧ dnum L ≤ 115792089237316195423570985008687907853269984665640564039457584049695129639936 := by
  have ha := dnum_abs l 36028797018963968 (by omega) hb
  have hlen := h.len
  obtain ⟨r, c, hr, hd, rfl⟩ := h
  rw [hl, pow16] at ha
  rw [pow16] at hd
  have hn := norm_bound hr
  have hc : -1099511627776 ≤ c ∧ c ≤ 1099511627776 := by omega
  obtain ⟨e0, e1⟩ := set0_nth r (nth r 0 + 38 * c) hr.1
  have r0 := hr.nth 0
  have h1 : ∀ j, 1 ≤ j → j < 16 → 0 ≤ nth (r.set 0 (nth r 0 + 38 * c)) j ∧ nth (r.set 0 (nth r 0 + 38 * c)) j < 65536 := fun j hj _ => by rw [e1 j hj]; exact hr.nth j
  have h2 : -41782000000000 ≤ nth (r.set 0 (nth r 0 + 38 * c)) 0 ∧ nth (r.set 0 (nth r 0 + 38 * c)) 0 ≤ 41782000000000 := by rw [e0]; omega
  refine ⟨h1, h2, fun x hx => ?_, ?_⟩
  · obtain ⟨j, hj, rfl⟩ := mem_nth hx
    rw [hlen] at hj
    by_cases h0 : j = 0
    · subst h0; omega
    · have := h1 j (by omega) hj; omega
  · rw [dnum_put0 _ hr.1]; omega
/-- .. and a second one. -/
theorem Car9.tight {l L : List Int} {n : F} (h : Car9 l L) (hl : -41782000000000 ≤ dnum l ∧ dnum l ≤ 115792089237316195423570985008687907853269984665640564039457584049695129639936) (hn : dnum l % PI = (n.val : Int)) : Tg n L := by
  have hN := h.num
  have hlen := h.len
  obtain ⟨r, c, hr, hd, rfl⟩ := h
  rw [pow16] at hd
  have hb := norm_bound hr
  have hc : c = -1 ∨ c = 0 ∨ c = 1 := by omega
  obtain ⟨e0, e1⟩ := set0_nth r (nth r 0 + 38 * c) hr.1
  have r0 := hr.nth 0
  exact ⟨hlen, fun j hj _ => by rw [e1 j hj]; exact hr.nth j, by rw [e0]; omega, by rw [hN, hn]⟩
/-- Digits of a number below 2^256 are carried to normal ones. -/
theorem Car9.norm {l L : List Int} (h : Car9 l L) (hl : 0 ≤ dnum l ∧ dnum l < 115792089237316195423570985008687907853269984665640564039457584007913129639936) : Norm L := by
  obtain ⟨r, c, hr, hd, rfl⟩ := h
  rw [pow16] at hd
  have hb := norm_bound hr
  have hc : c = 0 := by omega
  subst hc
  have e : r.set 0 (nth r 0 + 38 * 0) = r := by
    have h0 : 0 < r.length := by rw [hr.1]; omega
    have e2 : nth r 0 + 38 * (0 : Int) = nth r 0 := by omega
    rw [e2, nth_get h0]
    exact List.set_getElem_self h0
  rw [e]; exact hr
theorem digit0 {r : List Int} (hr : Norm r) : nth r 0 = dnum r % 65536 := by
  have h1 := drop_nth r 0 (by rw [hr.1]; omega)
  rw [List.drop_zero] at h1
  have h2 := hr.nth 0
  rw [h1]
  have e : nth (nth r 0 :: r.drop 1) 0 = nth r 0 := rfl
  simp only [dnum]
  rw [e]; omega
theorem Tg.bound {n : F} {l : List Int} (h : Tg n l) : -38 ≤ dnum l ∧ dnum l ≤ 115792089237316195423570985008687907853269984665640564039457584007913129639973 := by
  have h1 := drop_nth l 0 (by rw [h.1]; omega)
  rw [List.drop_zero] at h1
  have hb := dnum_bound (l.drop 1) (fun x hx => by
    obtain ⟨j, hj, rfl⟩ := mem_nth hx
    rw [List.length_drop, h.1] at hj
    have e : nth (l.drop 1) j = nth l (j + 1) := by simp only [nth, List.getD_eq_getElem?_getD, List.getElem?_drop]; rw [Nat.add_comm]
    rw [e]
    exact h.2.1 (j + 1) (by omega) (by omega))
  have p15 : (65536 : Int) ^ 15 = 1766847064778384329583297500742918515827483896875618958121606201292619776 := by decide
  rw [List.length_drop, h.1, p15] at hb
  have h0 := h.2.2.1
  have e : dnum l = nth l 0 + 65536 * dnum (l.drop 1) := by
    conv => lhs; rw [h1]
    rfl
  rw [e]
  generalize dnum (l.drop 1) = q at *
  omega
/-- A tight list carried twice is normal. -/
theorem Car9.twice {n : F} {l L L2 : List Int} (ht : Tg n l) (h : Car9 l L) (h2 : Car9 L L2) : Norm L2 := by
  have ha := ht.bound
  obtain ⟨r, c, hr, hd, rfl⟩ := h
  rw [pow16] at hd
  have hb := norm_bound hr
  have hc : c = -1 ∨ c = 0 ∨ c = 1 := by omega
  have hD := dnum_put0 r hr.1 (nth r 0 + 38 * c)
  by_cases hin : 0 ≤ dnum (r.set 0 (nth r 0 + 38 * c)) ∧ dnum (r.set 0 (nth r 0 + 38 * c)) < 115792089237316195423570985008687907853269984665640564039457584007913129639936
  · exact h2.norm hin
  · obtain ⟨r2, c2, hr2, hd2, rfl⟩ := h2
    rw [pow16] at hd2
    have hb2 := norm_bound hr2
    have d0 := digit0 hr2
    generalize dnum (r.set 0 (nth r 0 + 38 * c)) = D at *
    have key : 0 ≤ nth r2 0 + 38 * c2 ∧ nth r2 0 + 38 * c2 < 65536 := by
      have hc2 : c2 = -1 ∨ c2 = 1 := by omega
      rcases hc2 with rfl | rfl
      · omega
      · omega
    refine ⟨by rw [List.length_set, hr2.1], fun x hx => ?_⟩
    rcases List.mem_or_eq_of_mem_set hx with h' | rfl
    · exact hr2.2 x h'
    · exact key
theorem Tg.tame {n : F} {l : List Int} (h : Tg n l) : ∀ x ∈ l, -36028797018963968 ≤ x ∧ x ≤ 36028797018963968 := fun x hx => by have := h.mem x hx; omega

/-! ### Sums and differences -/
theorem fin_add_emod {n m : F} {a b : Int} (ha : a % PI = (n.val : Int)) (hb : b % PI = (m.val : Int)) : (a + b) % PI = ((n + m : F).val : Int) := by
  rw [val_add, Int.natCast_emod, Int.natCast_add, ← ha, ← hb, PI_eq, ← Int.add_emod]
theorem fin_mul_emod {n m : F} {a b : Int} (ha : a % PI = (n.val : Int)) (hb : b % PI = (m.val : Int)) : (a * b) % PI = ((n * m : F).val : Int) := by
  rw [val_mul, Int.natCast_emod, Int.natCast_mul, ← ha, ← hb, PI_eq, ← Int.mul_emod]
theorem fin_sub_emod {n m : F} {a b : Int} (ha : a % PI = (n.val : Int)) (hb : b % PI = (m.val : Int)) : (a - b) % PI = ((n - m : F).val : Int) := by
  have h1 : ((n - m : F) + m) = n := by grind
  have h3 : ((a - b) % PI).toNat < P := by
    have : (P : Int) = PI := PI_eq
    have h4 := Int.emod_lt_of_pos (a - b) (show (0 : Int) < PI by decide)
    have h5 := Int.emod_nonneg (a - b) (show (PI : Int) ≠ 0 by decide)
    omega
  have h5 := Int.emod_nonneg (a - b) (show (PI : Int) ≠ 0 by decide)
  have hx : (a - b) % PI = ((⟨((a - b) % PI).toNat, h3⟩ : F).val : Int) := by
    show _ = ((((a - b) % PI).toNat : Nat) : Int)
    omega
  have h6 := fin_add_emod hx hb (n := ⟨((a - b) % PI).toNat, h3⟩)
  rw [Int.sub_add_cancel, ha] at h6
  have h7 : n = (⟨((a - b) % PI).toNat, h3⟩ : F) + m := F.ext (Int.ofNat.inj h6)
  rw [hx]
  have h8 : (⟨((a - b) % PI).toNat, h3⟩ : F) = n - m := by rw [h7]; grind
  rw [h8]
theorem addL_wide {n m : F} {a b : List Int} (ha : Tg n a) (hb : Tg m b) : Wide9 (n + m) (addL a b) := by
  refine ⟨by simp [addL, ha.1, hb.1], fun j => ?_, by rw [addL_num (ha.1.trans hb.1.symm)]; exact fin_add_emod ha.2.2.2 hb.2.2.2⟩
  by_cases hj : j < 16
  · rw [addL, nth_zip _ _ _ _ (by rw [ha.1]; exact hj) (by rw [hb.1]; exact hj)]
    have h1 := ha.mem (nth a j) (by rw [nth_get (by rw [ha.1]; exact hj)]; exact List.getElem_mem _)
    have h2 := hb.mem (nth b j) (by rw [nth_get (by rw [hb.1]; exact hj)]; exact List.getElem_mem _)
    omega
  · rw [nth_past _ _ (by simp [addL, ha.1, hb.1]; omega)]; omega
theorem subL_wide {n m : F} {a b : List Int} (ha : Tg n a) (hb : Tg m b) : Wide9 (n - m) (subL a b) := by
  refine ⟨by simp [subL, ha.1, hb.1], fun j => ?_, by rw [subL_num (ha.1.trans hb.1.symm)]; exact fin_sub_emod ha.2.2.2 hb.2.2.2⟩
  by_cases hj : j < 16
  · rw [subL, nth_zip _ _ _ _ (by rw [ha.1]; exact hj) (by rw [hb.1]; exact hj)]
    have h1 := ha.mem (nth a j) (by rw [nth_get (by rw [ha.1]; exact hj)]; exact List.getElem_mem _)
    have h2 := hb.mem (nth b j) (by rw [nth_get (by rw [hb.1]; exact hj)]; exact List.getElem_mem _)
    omega
  · rw [nth_past _ _ (by simp [subL, ha.1, hb.1]; omega)]; omega
theorem smallL_tight (x : Int) (h0 : 0 ≤ x ∧ x < 65536) (n : F) (hn : x = (n.val : Int)) : Tg n (smallL x) := by
  refine ⟨rfl, fun j h1 hj => ?_, ?_, by rw [smallL_num, hn]; exact Int.emod_eq_of_lt (by omega) (by have := n.isLt; rw [← PI_eq]; omega)⟩
  · obtain ⟨k, rfl⟩ : ∃ k, j = k + 1 := ⟨j - 1, by omega⟩
    have e : nth (smallL x) (k + 1) = nth (List.replicate 15 (0 : Int)) k := rfl
    rw [e, nth_get (by simp; omega), List.getElem_replicate]; omega
  · have e : nth (smallL x) 0 = x := rfl
    rw [e]; omega
theorem smallL_wide (x : Int) (h0 : 0 ≤ x ∧ x ≤ 131146) (n : F) (hn : x = (n.val : Int)) : Wide9 n (smallL x) := by
  refine ⟨rfl, fun j => ?_, by rw [smallL_num, hn]; exact Int.emod_eq_of_lt (by omega) (by have := n.isLt; rw [← PI_eq]; omega)⟩
  by_cases hz : j = 0
  · subst hz
    have e : nth (smallL x) 0 = x := rfl
    rw [e]; omega
  · obtain ⟨k, rfl⟩ : ∃ k, j = k + 1 := ⟨j - 1, by omega⟩
    have e : nth (smallL x) (k + 1) = nth (List.replicate 15 (0 : Int)) k := rfl
    rw [e]
    by_cases hk : k < 15
    · rw [nth_get (by simp; omega), List.getElem_replicate]; omega
    · rw [nth_past _ _ (by simp; omega)]; omega
theorem ofL_tight (l : List Int) (hl : l.length = 32) (hb : Byt l) : Tg (numF l) (ofL l) := by
  have hD := dgs_norm l hl hb
  have h15 := hD.nth 15
  have hL : (ofL l).length = 16 := by rw [ofL, List.length_set, hD.1]
  refine ⟨hL, fun j h1 hj => ?_, ?_, ?_⟩
  · rw [ofL, nth_set _ _ _ _ (by rw [hD.1]; omega)]
    split
    · omega
    · exact hD.nth j
  · rw [ofL, nth_set _ _ _ _ (by rw [hD.1]; omega), if_neg (by omega)]
    have := hD.nth 0; omega
  · have e1 : dnum (ofL l) = num l - 57896044618658097711785492504343953926634992332820282019728792003956564819968 * (nth (dgs l) 15 / 32768) := by
      rw [ofL, dnum_set _ _ _ (by rw [hD.1]; omega), dgs_num 16 l hl]
      have : (65536 : Int) ^ 15 = 1766847064778384329583297500742918515827483896875618958121606201292619776 := by decide
      rw [this]; omega
    have hn := num_bound l hb
    rw [hl] at hn
    have p : (256 : Int) ^ 32 = 115792089237316195423570985008687907853269984665640564039457584007913129639936 := by decide
    rw [p] at hn
    have e2 : dnum (ofL l) = num l % 57896044618658097711785492504343953926634992332820282019728792003956564819968 := by
      have hb2 : 0 ≤ dnum (ofL l) ∧ dnum (ofL l) < 57896044618658097711785492504343953926634992332820282019728792003956564819968 := by
        obtain ⟨A, x, hlen, hAx⟩ : ∃ A x, A.length = 15 ∧ dgs l = A ++ [x] := by
          refine ⟨(dgs l).take 15, nth (dgs l) 15, by rw [List.length_take, hD.1]; omega, ?_⟩
          have := drop_nth (dgs l) 15 (by rw [hD.1]; omega)
          rw [List.drop_of_length_le (show (dgs l).length ≤ 15 + 1 by rw [hD.1]; omega)] at this
          conv => lhs; rw [← List.take_append_drop 15 (dgs l), this]
        have hA := dnum_bound A (fun y hy => hD.2 y (by rw [hAx]; exact List.mem_append_left _ hy))
        have hs : ofL l = A ++ [x % 32768] := by
          rw [ofL, hAx, pre_nth _ _ _ _ hlen, pre_set _ _ _ _ _ hlen]; simp
        rw [hlen] at hA
        rw [hs, dnum_append, hlen]
        have p15 : (65536 : Int) ^ 15 = 1766847064778384329583297500742918515827483896875618958121606201292619776 := by decide
        rw [p15] at hA ⊢
        simp only [dnum]
        omega
      omega
    rw [e2, ← val_numF l hb]
end Go.Proofs.Ytciakfhjjnmeeaa
