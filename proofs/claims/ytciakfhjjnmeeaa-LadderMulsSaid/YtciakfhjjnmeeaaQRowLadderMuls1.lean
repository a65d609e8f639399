/- Texts of this proof's own, one behind the other. No condition. -/
import Derived.Test.YtciakfhjjnmeeaaBa0
import Derived.Test.YtciakfhjjnmeeaaBa1
import Derived.Test.YtciakfhjjnmeeaaBa2
import Derived.Test.YtciakfhjjnmeeaaBa3
import Derived.Test.YtciakfhjjnmeeaaBa4
import Derived.Test.YtciakfhjjnmeeaaBa5
import Derived.Test.YtciakfhjjnmeeaaQRowLadderMuls0
import Derived.Deep.LoopGhost
namespace Go.Proofs.Ytciakfhjjnmeeaa
open Go.RowKit Nt

theorem tThirtyOne : RowT Try.prog 153 31 := ⟨_, Try.underlying153, rfl, by kernel_rfl⟩
def z31 : List Int := List.replicate 31 0

/-- Products of digits gathered so far. -/
def Cv (a b : List Int) (i k : Nat) (t : List Int) : Prop :=
  t.length = 31 ∧ (∀ j, -(17199273316 * (16 * i + k : Nat)) ≤ nth t j ∧ nth t j ≤ 17199273316 * (16 * i + k : Nat)) ∧ dnum t = dnum (a.take i) * dnum b + 65536 ^ i * nth a i * dnum (b.take k)

theorem prod_bound {x y : Int} (hx : -131146 ≤ x ∧ x ≤ 131146) (hy : -131146 ≤ y ∧ y ≤ 131146) : -17199273316 ≤ x * y ∧ x * y ≤ 17199273316 := by
  have h1 : 0 ≤ (131146 - x) * (131146 + y) := Int.mul_nonneg (by omega) (by omega)
  have h2 : 0 ≤ (131146 + x) * (131146 - y) := Int.mul_nonneg (by omega) (by omega)
  have h3 : 0 ≤ (131146 - x) * (131146 - y) := Int.mul_nonneg (by omega) (by omega)
  have h4 : 0 ≤ (131146 + x) * (131146 + y) := Int.mul_nonneg (by omega) (by omega)
  have e1 : (131146 - x) * (131146 + y) = 17199273316 + 131146 * y - 131146 * x - x * y := by grind
  have e2 : (131146 + x) * (131146 - y) = 17199273316 - 131146 * y + 131146 * x - x * y := by grind
  have e3 : (131146 - x) * (131146 - y) = 17199273316 - 131146 * y - 131146 * x + x * y := by grind
  have e4 : (131146 + x) * (131146 + y) = 17199273316 + 131146 * y + 131146 * x + x * y := by grind
  omega
theorem Cv.start (a b : List Int) : Cv a b 0 0 z31 := ⟨rfl, fun j => by
  have : nth z31 j = 0 := by
    by_cases h : j < 31
    · rw [nth_get (by exact h)]; exact List.getElem_replicate _
    · exact nth_past _ _ (by show 31 ≤ j; omega)
  rw [this]; omega, by rw [show dnum z31 = 0 by decide]; simp [dnum]⟩
theorem Cv.step {a b t : List Int} {i k : Nat} (h : Cv a b i k t) (hb : b.length = 16) (pp : -17199273316 ≤ nth a i * nth b k ∧ nth a i * nth b k ≤ 17199273316) (hi : i < 16) (hk : k < 16) :
    Cv a b i (k + 1) (t.set (i + k) (nth t (i + k) + nth a i * nth b k)) := by
  obtain ⟨h1, h2, h3⟩ := h
  refine ⟨by rw [List.length_set, h1], fun j => ?_, ?_⟩
  · have := h2 j
    have := h2 (i + k)
    rw [nth_set _ _ _ _ (by omega)]
    split <;> omega
  · rw [dnum_set _ _ _ (by omega), h3, dnum_take b k (by omega), Int.pow_add]
    grind
theorem Cv.next {a b t : List Int} {i : Nat} (h : Cv a b i 16 t) (ha : a.length = 16) (hb : b.length = 16) (hi : i < 16) : Cv a b (i + 1) 0 t := by
  obtain ⟨h1, h2, h3⟩ := h
  refine ⟨h1, fun j => by have := h2 j; omega, ?_⟩
  rw [show b.take 16 = b from List.take_of_length_le (by omega)] at h3
  rw [h3, dnum_take a i (by omega)]
  simp only [List.take_zero, dnum]
  grind

/-- Thirty-one digits brought to sixteen. -/
def foldL (t : List Int) : List Int := List.zipWith (fun x y => x + 38 * y) (t.take 16) (t.drop 16 ++ [0])
theorem foldL_len {t : List Int} (h : t.length = 31) : (foldL t).length = 16 := by simp [foldL, h]
theorem foldL_at {t : List Int} (h : t.length = 31) (k : Nat) (hk : k < 16) : nth (foldL t) k = nth t k + 38 * nth t (k + 16) := by
  rw [foldL, nth_zip _ _ _ _ (by simp [h]; omega) (by simp [h]; omega)]
  have e1 : nth (t.take 16) k = nth t k := by rw [nth_get (by simp [h]; omega), nth_get (by omega), List.getElem_take]
  have e2 : nth (t.drop 16 ++ [0]) k = nth t (k + 16) := by
    by_cases h15 : k < 15
    · rw [nth_get (by simp [h]; omega), nth_get (by omega), List.getElem_append_left (by simp [h]; omega), List.getElem_drop]
      congr 1; omega
    · obtain rfl : k = 15 := by omega
      rw [nth_past t _ (by omega), nth_get (by simp [h]), List.getElem_append_right (by simp [h])]
      simp
  rw [e1, e2]
theorem foldL_num {t : List Int} (h : t.length = 31) : dnum (foldL t) % PI = dnum t % PI := by
  have e1 : dnum (foldL t) = dnum (t.take 16) + 38 * dnum (t.drop 16) := by
    rw [foldL, dnum_zip _ 38 (fun x y => rfl) _ _ (by simp [h]), dnum_append]; simp [dnum]
  have e2 : dnum t = dnum (t.take 16) + 65536 ^ 16 * dnum (t.drop 16) := by
    conv => lhs; rw [← List.take_append_drop 16 t, dnum_append]
    rw [show (t.take 16).length = 16 by simp [h]]
  rw [e1, e2, pow16]
  have e : dnum (t.take 16) + 38 * dnum (t.drop 16) = dnum (t.take 16) + 115792089237316195423570985008687907853269984665640564039457584007913129639936 * dnum (t.drop 16) + PI * (-2 * dnum (t.drop 16)) := by simp only [PI]; omega
  rw [e, Int.add_mul_emod_self_left]
theorem Cv.done {a b t : List Int} {n m : F} (h : Cv a b 16 0 t) (ha : Wide9 n a) (hb : Wide9 m b) : (∀ x ∈ foldL t, -36028797018963968 ≤ x ∧ x ≤ 36028797018963968) ∧ dnum (foldL t) % PI = ((n * m : F).val : Int) := by
  refine ⟨fun x hx => ?_, ?_⟩
  · obtain ⟨j, hj, rfl⟩ := mem_nth hx
    rw [foldL_len h.1] at hj
    rw [foldL_at h.1 j hj]
    have := h.2.1 j
    have := h.2.1 (j + 16)
    omega
  · rw [foldL_num h.1, h.2.2, List.take_of_length_le (by rw [ha.1]; omega)]
    simp only [List.take_zero, dnum, Int.mul_zero, Int.add_zero]
    exact fin_mul_emod ha.2.2 hb.2.2

/-- A value that is a tight list of the number n. -/
def IsN (n : F) (v : Value) : Prop := ∃ l, v = .agg (valsK .i64 l) ∧ Tg n l
/-- .. a wide one. -/
def IsW (n : F) (v : Value) : Prop := ∃ l, v = .agg (valsK .i64 l) ∧ Wide9 n l
theorem IsN.wide {n : F} {v : Value} (h : IsN n v) : IsW n v := by obtain ⟨l, h1, h2⟩ := h; exact ⟨l, h1, h2.wide⟩

set_option maxHeartbeats 2000000 in
set_option maxRecDepth 100000 in
theorem times9_list (a b : List Int) (n m : F) (w : World) (hwa : Wide9 n a) (hwb : Wide9 m b) : Calls Try.prog 95 #[.agg (valsK .i64 a), .agg (valsK .i64 b)] w (Gives (IsN (n * m)) w) := by
  have HA := Lib.hid hwa.1
  have HB := Lib.hid hwb.1
  have HWA := Lib.hid hwa
  have HWB := Lib.hid hwb
  clear hwa hwb
  go_enter Try.func95, Try.ntmps95
  go_wp2_with fail
  go_loopw [6] (fun i wr => ∃ (p : Nat) (t : List Int), p ≤ 16 ∧ i = .int .i64 p ∧ Cv a b p 0 t ∧ wr.heap[w.heap.size]? = some (.cells (valsK .i64 a) 131 (0, 0)) ∧ wr.heap[w.heap.size + 1]? = some (.cells (valsK .i64 b) 131 (0, 0)) ∧ wr.heap[w.heap.size + 2]? = some (.cells (valsK .i64 z16) 131 (0, 0)) ∧ wr.heap[w.heap.size + 3]? = some (.cells (valsK .i64 t) 153 (0, 0)) ∧ Below w.heap.size w wr) (fun i _ => 16 - (intOf i).toNat)
  case atStart => exact ⟨0, z31, by omega, rfl, Cv.start a b, new4_0 .., new4_1 .., new4_2 .., new4_3 .., by go_grown⟩
  case round =>
    obtain ⟨p, t, hp, rfl, hC, RX, RY, RZ, RT, Bk⟩ := hrel
    obtain ⟨wo, hwo⟩ : ∃ wo, wo = wr := ⟨_, rfl⟩
    subst hwo
    by_cases hlt : p < 16
    · go_wp2_with fail
      go_loopw [7] (fun i wr => ∃ (q : Nat) (t : List Int), q ≤ 16 ∧ i = .int .i64 q ∧ Cv a b p q t ∧ wr.heap[w.heap.size]? = some (.cells (valsK .i64 a) 131 (0, 0)) ∧ wr.heap[w.heap.size + 1]? = some (.cells (valsK .i64 b) 131 (0, 0)) ∧ wr.heap[w.heap.size + 2]? = some (.cells (valsK .i64 z16) 131 (0, 0)) ∧ wr.heap[w.heap.size + 3]? = some (.cells (valsK .i64 t) 153 (0, 0)) ∧ Below w.heap.size w wr) (fun i _ => 16 - (intOf i).toNat)
      case atStart => exact ⟨0, t, by omega, rfl, hC, RX, RY, RZ, RT, Bk⟩
      case round =>
        clear hC RX RY RZ RT Bk
        obtain ⟨q, t, hq, rfl, hC, RX, RY, RZ, RT, Bk⟩ := hrel
        have HCL := Lib.hid hC.1
        by_cases hql : q < 16
        · have cx := (row_cell RX p).trans (valsK_get (by rw [HA.out]; exact hlt))
          have cy := (row_cell RY q).trans (valsK_get (by rw [HB.out]; exact hql))
          have pp := prod_bound (HWA.out.2.1 p) (HWB.out.2.1 q)
          have ct := (row_cell RT (p + q)).trans (valsK_get (by rw [HCL.out]; omega))
          have ft := row_free RT (p + q)
          have hbt := hC.2.1 (p + q)
          have HS := Lib.hid (row_set (i := p + q) (v := .int .i64 (nth t (p + q) + nth a p * nth b q)) RT)
          have HC := Lib.hid (hC.step HB.out pp hlt hql)
          have H1 := Lib.hid RX
          have H2 := Lib.hid RY
          have H3 := Lib.hid RZ
          clear RX RY RZ RT hC
          go_wp2
          go_region
          go_wp2
          go_roundw
          case rel =>
            refine ⟨q + 1, _, by omega, by go_num, HC.out, row_set_other H1.out (by omega), row_set_other H2.out (by omega), row_set_other H3.out (by omega), ?_, by go_grown⟩
            refine HS.out.trans ?_
            rw [valsK_set]
          case measure => simp [intOf]; omega
        · obtain rfl : q = 16 := by omega
          have HC := Lib.hid (hC.next HA.out HB.out hlt)
          have H1 := Lib.hid RX
          have H2 := Lib.hid RY
          have H3 := Lib.hid RZ
          have H4 := Lib.hid RT
          clear RX RY RZ RT hC
          go_wp2
          go_roundw
          case rel => exact ⟨p + 1, t, by omega, by go_num, HC.out, H1.out, H2.out, H3.out, H4.out, Bk⟩
          case measure => simp [intOf]; omega
    · obtain rfl : p = 16 := by omega
      obtain ⟨hb2, hd⟩ := hC.done HWA.out HWB.out
      have hcl := hC.1
      have HCL := Lib.hid hcl
      have HFL := Lib.hid (foldL_len hcl)
      have HB2 := Lib.hid hb2
      have HD := Lib.hid hd
      have HFA := Lib.hid (foldL_at hcl)
      have hbt : ∀ j, -4403013968896 ≤ nth t j ∧ nth t j ≤ 4403013968896 := fun j => by have := hC.2.1 j; omega
      have HBT := Lib.hid hbt
      have LT := row_lt RT
      clear hC hb2 hd hcl hbt
      go_wp2_with fail
      have RZ2 := row_alloc (x := .cells (valsK .i64 z16) 131) RZ
      have RT2 := row_alloc (x := .cells (valsK .i64 z16) 131) RT
      have RN := row_new (w := wo) (x := .cells (valsK .i64 z16) 131)
      have B2 := Bk.alloc Bk.size (.cells (valsK .i64 z16) 131)
      clear RX RY RZ RT Bk
      change Code.wp _ _ _ _ (wo.alloc (.cells (valsK .i64 z16) 131))
      generalize wo.alloc (.cells (valsK .i64 z16) 131) = W at RZ2 RT2 RN B2 ⊢
      generalize wo.heap.size = gn at LT RN ⊢
      go_loopw [9] (fun i wr => ∃ k : Nat, k ≤ 16 ∧ i = .int .i64 k ∧ wr.heap[w.heap.size + 2]? = some (.cells (valsK .i64 z16) 131 (0, 0)) ∧ wr.heap[w.heap.size + 3]? = some (.cells (valsK .i64 t) 153 (0, 0)) ∧ wr.heap[gn]? = some (.cells (valsK .i64 ((foldL t).take k ++ z16.drop k)) 131 (0, 0)) ∧ Below w.heap.size w wr) (fun i _ => 16 - (intOf i).toNat)
      case atStart => exact ⟨0, by omega, rfl, RZ2, RT2, RN, B2⟩
      case round =>
        clear RZ2 RT2 RN B2
        obtain ⟨k, hk, rfl, RZ, RT, RN, Bk⟩ := hrel
        by_cases hkl : k < 16
        · have cn := (row_cell RN k).trans (valsK_get (by rw [fill_len _ _ _ (by rw [HFL.out]; rfl) (by rw [HFL.out]; omega)]; exact hkl))
          have fn := row_free RN k
          have ct := (row_cell RT k).trans (valsK_get (by rw [HCL.out]; omega))
          have bt := HBT.out k
          by_cases h15 : k < 15
          · have ct2 := (row_cell RT (k + 16)).trans (valsK_get (by rw [HCL.out]; omega))
            have bt2 := HBT.out (k + 16)
            have S2 := row_set (i := k) (v := .int .i64 (nth t k + 38 * nth t (k + 16))) (row_set (i := k) (v := .int .i64 (nth t k)) RN)
            have HFK := Lib.hid (HFA.out k hkl)
            have HS := Lib.hid S2
            have H1 := Lib.hid RZ
            have H2 := Lib.hid RT
            clear RZ RT RN S2
            generalize nth t k = x at *
            generalize nth t (k + 16) = y at *
            go_wp2
            go_region
            go_wp2
            go_roundw
            case rel =>
              refine ⟨k + 1, by omega, by go_num, row_set_other (row_set_other H1.out (by omega)) (by omega), row_set_other (row_set_other H2.out (by omega)) (by omega), ?_, by go_grown⟩
              refine HS.out.trans ?_
              rw [valsK_set, valsK_set, List.set_set, ← HFK.out, fill_step _ _ _ (by rw [HFL.out]; exact hkl) (by rw [HFL.out]; rfl)]
            case measure => simp [intOf]; omega
          · obtain rfl : k = 15 := by omega
            have S2 := row_set (i := 15) (v := .int .i64 (nth t 15)) RN
            have e31 : nth (foldL t) 15 = nth t 15 := by rw [HFA.out 15 hkl, nth_past t (15 + 16) (by rw [HCL.out]; omega)]; omega
            have HFK := Lib.hid e31
            have HS := Lib.hid S2
            have H1 := Lib.hid RZ
            have H2 := Lib.hid RT
            clear RZ RT RN S2 e31
            generalize nth t 15 = x at *
            go_wp2
            go_roundw
            case rel =>
              refine ⟨16, by omega, rfl, row_set_other H1.out (by omega), row_set_other H2.out (by omega), ?_, by go_grown⟩
              refine HS.out.trans ?_
              rw [valsK_set, ← HFK.out, fill_step _ _ _ (by rw [HFL.out]; exact hkl) (by rw [HFL.out]; rfl)]
            case measure => simp [intOf]
        · obtain rfl : k = 16 := by omega
          have e16 : (foldL t).take 16 ++ z16.drop 16 = foldL t := by rw [List.take_of_length_le (by rw [HFL.out]; omega)]; exact List.append_nil _
          rw [e16] at RN
          clear e16 HFA HBT HWA HWB HA HB
          generalize foldL t = N at *
          go_wp2_with (refine ld_row rfl 131 (.tmp 8) rfl _ (by rfl) _ _ RN 16 tNine (by rw [valsK_size, HFL.out]) ?_)
          refine (carry9_any N _ HFL.out HB2.out).mono ?_
          rintro e w1 ⟨L1, rfl, hL1, b1⟩
          have h1 := hL1.once HFL.out HB2.out
          have hn1 := hL1.num
          rw [HD.out] at hn1
          have Z1 := row_call b1 RZ
          have B1 := below_call b1 Bk
          have HL1 := Lib.hid hL1
          have H1 := Lib.hid h1
          have HN1 := Lib.hid hn1
          clear b1 RZ RN RT Bk hL1 h1 hn1
          go_wp2_with fail
          refine (carry9_any L1 _ HL1.out.len H1.out.2.2.1).mono ?_
          rintro e w2 ⟨L2, rfl, hL2, b2⟩
          have hT := hL2.tight H1.out.2.2.2 HN1.out
          have Z2 := row_call b2 Z1
          have B2 := below_call b2 B1
          have HT := Lib.hid hT
          clear b2 Z1 B1 hL2 hT H1 HL1 HN1
          go_wp2_with (refine st_row rfl 131 (.tmp 4) _ rfl _ _ (by rfl) (by rfl) _ _ Z2 16 tNine (by rw [valsK_size, HT.out.1]) (by rfl) (valsK_one _ _) ?_)
          refine ret_row rfl _ _ _ rfl (row_put Z2) 16 tNine (by rw [valsK_size, HT.out.1]) rfl ?_
          exact ⟨_, rfl, ⟨L2, rfl, HT.out⟩, below_setRow B2 (by omega) _⟩
end Go.Proofs.Ytciakfhjjnmeeaa

namespace Go.Proofs.Ytciakfhjjnmeeaa
open Go.RowKit Nt

theorem primeL_norm : Norm primeL := ⟨rfl, by decide⟩

set_option maxHeartbeats 1000000 in
set_option maxRecDepth 100000 in
theorem below9_any (a : List Int) (w : World) (ha : Norm a) :
    Calls Try.prog 120 #[.agg (valsK .i64 a)] w fun e w' => e = .returned (.bool (decide (dnum a < dnum primeL))) ∧ Below w.heap.size w w' := by
  have HA := Lib.hid ha.1
  have hb := primeL_norm
  have HB := Lib.hid hb.1
  have hbo := valsK_one .i64 primeL
  go_enter Try.func120, Try.ntmps120
  go_wp2_with fail
  refine (prime9_any _).mono ?_
  rintro e w1 ⟨r, rfl, rfl, b1⟩
  have R0 := row_call b1 (row_new (w := w) (x := .cells (valsK .i64 a) 131))
  have B1 := below_call b1 ((Below.refl w.heap.size w).alloc (Nat.le_refl _) (.cells (valsK .i64 a) 131))
  have HL := row_lt R0
  have R1 := row_alloc (x := .cells (valsK .i64 primeL) 131) R0
  have R2 := row_new (w := w1) (x := .cells (valsK .i64 primeL) 131)
  have B2 := B1.alloc B1.size (.cells (valsK .i64 primeL) 131)
  clear b1 R0 B1
  generalize hbp : primeL = b at *
  have HBP := Lib.hid hbp
  clear hbp
  go_wp2_with (refine st_new rfl 131 (.tmp 3) _ rfl _ _ _ (by rfl) (by rfl) 16 tNine (by rw [valsK_size, HB.out]) (by rfl) hbo ?_)
  generalize w1.alloc (.cells (valsK .i64 b) 131) = W at R1 R2 B2 ⊢
  generalize w1.heap.size = gp at R2 HL ⊢
  go_loopw [4] (fun i wr => ∃ k : Nat, k ≤ 16 ∧ i = .int .i64 ((k : Int) - 1) ∧ a.drop k = b.drop k ∧ wr.heap[w.heap.size]? = some (.cells (valsK .i64 a) 131 (0, 0)) ∧ wr.heap[gp]? = some (.cells (valsK .i64 b) 131 (0, 0)) ∧ Below w.heap.size w wr) (fun i _ => (intOf i + 1).toNat)
  case atStart => exact ⟨16, by omega, rfl, by rw [List.drop_of_length_le (by rw [HA.out]; omega), List.drop_of_length_le (by rw [HB.out]; omega)], R1, R2, B2⟩
  case round =>
    clear R1 R2 B2
    obtain ⟨k, hk, rfl, hd, Ra, Rb, Bk⟩ := hrel
    by_cases h0 : k = 0
    · subst h0
      have hab : a = b := hd
      have hf : decide (dnum a < dnum b) = false := by rw [hab]; simp
      have HF := Lib.hid hf
      clear hf hab hd
      go_wp2
      go_returns
      exact ⟨by rw [HBP.out, HF.out]; rfl, Bk⟩
    · obtain ⟨m, rfl⟩ : ∃ m, k = m + 1 := ⟨k - 1, by omega⟩
      have ca := (row_cell Ra m).trans (valsK_get (by rw [HA.out]; omega))
      have cb := (row_cell Rb m).trans (valsK_get (by rw [HB.out]; omega))
      have HRa := Lib.hid Ra
      have HRb := Lib.hid Rb
      have HDr := Lib.hid hd
      clear Ra Rb hd
      by_cases he : nth a m = nth b m
      · have hbe : (nth a m != nth b m) = false := by simp [he]
        have he2 := he
        have HE := Lib.hid he
        clear he he2
        go_wp2
        go_quiet (fail)
        go_wp2
        go_roundw
        case rel =>
          refine ⟨m, by omega, by go_num, ?_, ?_, ?_, ?_⟩
          · rw [drop_nth a m (by rw [HA.out]; omega), drop_nth b m (by rw [HB.out]; omega), HE.out, HDr.out]
          · exact HRa.out
          · exact HRb.out
          · exact below_drewN Bk _
        case measure => simp [intOf]
      · have hbe : (nth a m != nth b m) = true := by simp [he]
        have HX := Lib.hid (ahead_at ha hb (by omega) HDr.out he)
        clear he
        go_wp2
        go_quiet (fail)
        go_wp2
        go_quiet (fail)
        go_wp2
        go_returns
        exact ⟨by rw [HBP.out, ← HX.out]; rfl, below_drewN (below_drewN Bk _) _⟩

/-- The digits while they are brought to normal ones, the last one not. -/
def mid15 (l A : List Int) (c : Int) (k : Nat) : List Int := A ++ (nth l k + c) :: l.drop (k + 1)
theorem mid15_step {l A : List Int} {c d : Int} {k : Nat} (hl : l.length = 16) (hA : A.length = k) (hk : k < 15) (v v2 : Int) (hv2 : v2 = nth l (k + 1) + d) :
    ((mid15 l A c k).set k v).set (k + 1) v2 = mid15 l (A ++ [v]) d (k + 1) := by
  rw [mid15, mid15, pre_set _ _ _ _ _ hA, drop_nth l (k + 1) (by omega), pre_set _ _ _ _ _ (by simp [hA]), hv2, List.append_assoc]
  rfl
theorem mid15_last {l A : List Int} {c : Int} (hl : l.length = 16) (hA : A.length = 15) (hN : ∀ x ∈ A, 0 ≤ x ∧ x < 65536) (hd : dnum A + 65536 ^ 15 * c = dnum (l.take 15)) (hb : 0 ≤ dnum l ∧ dnum l < 115792089237316195423570985008687907853269984665640564039457584007913129639936) :
    Norm (mid15 l A c 15) ∧ dnum (mid15 l A c 15) = dnum l := by
  have e1 : mid15 l A c 15 = A ++ [nth l 15 + c] := by rw [mid15, List.drop_of_length_le (by omega)]
  have e2 : dnum l = dnum (l.take 15) + 65536 ^ 15 * nth l 15 := by
    have := dnum_take l 15 (by omega)
    rw [List.take_of_length_le (by omega)] at this
    exact this
  have hAb := dnum_bound A hN
  have p15 : (65536 : Int) ^ 15 = 1766847064778384329583297500742918515827483896875618958121606201292619776 := by decide
  rw [hA, p15] at hAb
  rw [p15] at hd e2
  have e3 : dnum (A ++ [nth l 15 + c]) = dnum l := by
    rw [dnum_append, hA, p15]; simp only [dnum]; omega
  rw [e1]
  refine ⟨⟨by simp [hA], fun x hx => ?_⟩, e3⟩
  rw [dnum_append, hA, p15] at e3
  simp only [dnum] at e3
  rcases List.mem_append.1 hx with h | h
  · exact hN x h
  · rw [List.mem_singleton] at h; subst h; omega

/-- What is left to be taken off. -/
theorem less_prime {l : List Int} {n : F} (h : Norm l) (hn : dnum l % PI = (n.val : Int)) (hlt : dnum l < dnum primeL) : dnum l = (n.val : Int) := by
  have := norm_bound h
  rw [primeL_num] at hlt
  rw [← hn]
  exact (Int.emod_eq_of_lt this.1 (by simp only [PI]; omega)).symm
theorem sub_prime {l : List Int} {n : F} (h : Norm l) (hn : dnum l % PI = (n.val : Int)) : dnum (subL l primeL) = dnum l - PI ∧ dnum (subL l primeL) % PI = (n.val : Int) ∧ (∀ j, -65535 ≤ nth (subL l primeL) j ∧ nth (subL l primeL) j ≤ 65535) ∧ (subL l primeL).length = 16 := by
  have e : dnum (subL l primeL) = dnum l - PI := by rw [subL_num (h.1.trans rfl), primeL_num]
  refine ⟨e, ?_, fun j => ?_, by simp [subL, h.1]; rfl⟩
  · rw [e, ← hn, show dnum l - PI = dnum l + PI * (-1) by omega, Int.add_mul_emod_self_left]
  · by_cases hj : j < 16
    · rw [subL, nth_zip _ _ _ _ (by rw [h.1]; exact hj) hj]
      have h1 := h.nth j
      have h2 := primeL_norm.nth j
      omega
    · rw [nth_past _ _ (by simp [subL, h.1]; omega)]; omega
theorem Norm.tame {l : List Int} (h : Norm l) : ∀ x ∈ l, -1099511627776 ≤ x ∧ x ≤ 1099511627776 := fun x hx => by have := h.2 x hx; omega

theorem Own.rowK {b w : World} {L : List (Nat × Nat × (Value → Prop))} (h : Own b L w) {i g n : Nat} {l : List Int} (hi : L[i]? = some (g, n, (· = .agg (valsK .i64 l)))) : ∃ t, w.heap[g]? = some (.cells (valsK .i64 l) t (0, 0)) := by
  obtain ⟨cs, t, h1, _, h3⟩ := h.get hi
  injection h3 with h3
  subst h3
  exact ⟨t, h1⟩
theorem Own.word {b w : World} {L : List (Nat × Nat × (Value → Prop))} (h : Own b L w) {i g n : Nat} {l : List Int} (hi : L[i]? = some (g, n, (· = .agg (valsK .i64 l)))) (k : Nat) (x : Int) : Own b (L.set i (g, n, (· = .agg (valsK .i64 (l.set k x))))) (w.setCell ⟨g, k, none⟩ (.int .i64 x)) :=
  h.cell hi k _ fun cs _ hcs => by
    injection hcs with hcs
    subst hcs
    exact congrArg Value.agg (valsK_set ..)
theorem own2 {w W : World} {L : List Int} {tA tB : TypeId} (h0 : W.heap[w.heap.size]? = some (.cells (valsK .i64 L) tA (0, 0))) (hl : L.length = 16) (h1 : W.heap[w.heap.size + 1]? = some (.cells (vals z32) tB (0, 0))) (B : Below w.heap.size w W) :
    Own w [(w.heap.size, 16, (· = .agg (valsK .i64 L))), (w.heap.size + 1, 32, (· = .agg (vals z32)))] W :=
  ((Own.of_below B).add (g := w.heap.size) (n := 16) (V := (· = .agg (valsK .i64 L))) (Nat.le_refl _) (fun r hr => by cases hr) ⟨_, _, h0, by rw [valsK_size, hl], rfl⟩).add (g := w.heap.size + 1) (n := 32) (V := (· = .agg (vals z32))) (by omega) (by simp) ⟨_, _, h1, rfl, rfl⟩
theorem by_rowK {l : List Int} (h : l.length = 16) : ∀ x : Value, x = .agg (valsK .i64 l) → ∃ cs, x = .agg cs ∧ cs.size = 16 ∧ cs.all (·.oneCell') = true :=
  fun x hx => ⟨valsK .i64 l, hx, by rw [valsK_size, h], valsK_one _ _⟩
set_option maxHeartbeats 4000000 in
set_option maxRecDepth 100000 in
theorem bytes9_list (l : List Int) (n : F) (w : World) (hl : Tg n l) : Calls Try.prog 94 #[.agg (valsK .i64 l)] w (Gives (· = .agg (vals (bytesN n.val))) w) := by
  have HL := Lib.hid hl
  have R0 := new2_0 w (.cells (valsK .i64 l) 131) (.cells (vals z32) 22)
  have R1 := new2_1 w (.cells (valsK .i64 l) 131) (.cells (vals z32) 22)
  have B0 : Below w.heap.size w ((w.alloc (.cells (valsK .i64 l) 131)).alloc (.cells (vals z32) 22)) := by go_grown
  clear hl
  go_enter Try.func94, Try.ntmps94
  go_wp2_with (refine ld_row rfl 131 (.tmp 1) rfl _ (by rfl) _ _ R0 16 tNine (by rw [valsK_size, HL.out.1]) ?_)
  change Calls _ _ _ ((w.alloc (.cells (valsK .i64 l) 131)).alloc (.cells (vals z32) 22)) _
  generalize (w.alloc (.cells (valsK .i64 l) 131)).alloc (.cells (vals z32) 22) = W at *
  refine (carry9_any l _ HL.out.1 HL.out.tame).mono ?_
  rintro e w1 ⟨L1, rfl, hL1, b1⟩
  have h1 := hL1.once HL.out.1 HL.out.tame
  have hn1 := hL1.num
  replace R0 := row_call b1 R0
  replace R1 := row_call b1 R1
  have B1 := below_call b1 B0
  have HL1 := Lib.hid hL1
  have H1 := Lib.hid h1
  have HN1 := Lib.hid hn1
  clear b1 B0 hL1 h1 hn1 W
  go_wp2_with fail
  refine (carry9_any L1 _ HL1.out.len H1.out.2.2.1).mono ?_
  rintro e w2 ⟨L2, rfl, hL2, b2⟩
  have hn2 := hL2.num
  have hN2 := Car9.twice HL.out HL1.out hL2
  replace R0 := row_call b2 R0
  replace R1 := row_call b2 R1
  have B2 := below_call b2 B1
  rw [HN1.out, HL.out.2.2.2] at hn2
  have HN2 := Lib.hid hN2
  have HD2 := Lib.hid hn2
  clear b2 B1 hL2 hN2 hn2 HL1 H1 HN1 w1
  go_wp2_with fail
  refine (carry9_any L2 _ HN2.out.1 (fun x hx => by have := HN2.out.2 x hx; omega)).mono ?_
  rintro e w3 ⟨L3, rfl, hL3, b3⟩
  have hn3 := hL3.num
  have hN3 := hL3.norm (norm_bound HN2.out)
  replace R0 := row_call b3 R0
  replace R1 := row_call b3 R1
  have B3 := below_call b3 B2
  rw [HD2.out] at hn3
  have HN3 := Lib.hid hN3
  have HD3 := Lib.hid hn3
  have R0' := row_put (cs' := valsK .i64 L3) R0
  have R1' := row_put_other (cs := valsK .i64 L3) R1 (by omega : w.heap.size + 1 ≠ w.heap.size)
  have B3' := below_setRow B3 (Nat.le_refl _) (valsK .i64 L3)
  have HR0 := Lib.hid R0
  have HRB := Lib.hid (⟨R0', R1', B3'⟩ : _ ∧ _ ∧ _)
  clear b3 B2 B3 hL3 hN3 hn3 HN2 HD2 R0 R1 R0' R1' B3' w2
  go_wp2_with (refine st_row rfl 131 (.tmp 1) _ rfl _ _ (by rfl) (by rfl) _ _ HR0.out 16 tNine (by rw [valsK_size, HN3.out.1]) (by rw [valsK_size, HL.out.1]) (valsK_one _ _) ?_)
  go_frame
  go_loopg [3] 2 (fun g i wr => ∃ L, Norm L ∧ dnum L % PI = (n.val : Int) ∧ dnum L < PI * (g + 1 : Nat) ∧ Own w [(w.heap.size, 16, (· = .agg (valsK .i64 L))), (w.heap.size + 1, 32, (· = .agg (vals z32)))] wr)
  case atStart => exact ⟨L3, HN3.out, HD3.out, by have := norm_bound HN3.out; simp only [PI]; omega, own2 HRB.out.1 HN3.out.1 HRB.out.2.1 HRB.out.2.2⟩
  case round =>
    obtain ⟨L, hN, hD, hG, hO⟩ := hrel
    obtain ⟨tA, Ra⟩ := hO.rowK (i := 0) rfl
    obtain ⟨tB, Rb⟩ := hO.bytes (i := 1) rfl
    have Bk := hO.1
    clear hO
    clear HRB HN3 HD3 HL HR0
    obtain ⟨wo, hwo⟩ : ∃ wo, wo = wr := ⟨_, rfl⟩
    subst hwo
    have HN := Lib.hid hN
    have HD := Lib.hid hD
    have HG := Lib.hid hG
    clear hN hD hG
    go_wp2_with (refine ld_row rfl 131 (.tmp 1) rfl _ (by rfl) _ _ Ra 16 tNine (by rw [valsK_size, HN.out.1]) ?_)
    refine (below9_any L _ HN.out).mono ?_
    rintro e w4 ⟨rfl, b4⟩
    replace Ra := row_call b4 Ra
    replace Rb := row_call b4 Rb
    replace Bk := below_call b4 Bk
    clear b4
    by_cases hlt : dnum L < dnum primeL
    · have hfin := less_prime HN.out HD.out hlt
      have hU := lastly HN.out hfin
      rw [decide_eq_true hlt]
      have HU := Lib.hid hU
      have HUL := Lib.hid (show (undg L).length = 32 by rw [undg_len, HN.out.1])
      clear hlt hfin hU HG HD
      go_wp2_with fail
      have Ra2 := row_alloc (x := .cells (vals z32) 22) Ra
      have Rb2 := row_alloc (x := .cells (vals z32) 22) Rb
      have Rc := row_new (w := w4) (x := .cells (vals z32) 22)
      have B5 := Bk.alloc Bk.size (.cells (vals z32) 22)
      have HLT := row_lt Rb
      clear Ra Rb Bk
      change Code.wp _ _ _ _ (w4.alloc (.cells (vals z32) 22))
      generalize w4.alloc (.cells (vals z32) 22) = W5 at Ra2 Rb2 Rc B5 ⊢
      generalize w4.heap.size = go at Rc HLT ⊢
      go_loopw [6] (fun i wr => ∃ k : Nat, k ≤ 16 ∧ i = .int .i64 k ∧ wr.heap[w.heap.size]? = some (.cells (valsK .i64 L) tA (0, 0)) ∧ wr.heap[w.heap.size + 1]? = some (.cells (vals z32) tB (0, 0)) ∧ wr.heap[go]? = some (.cells (vals ((undg L).take (2 * k) ++ z32.drop (2 * k))) 22 (0, 0)) ∧ Below w.heap.size w wr) (fun i _ => 16 - (intOf i).toNat)
      case atStart => exact ⟨0, by omega, rfl, Ra2, Rb2, Rc, B5⟩
      case round =>
        clear Ra2 Rb2 Rc B5
        obtain ⟨k, hk, rfl, Ra, Rb, Rc, Bk⟩ := hrel
        by_cases hkl : k < 16
        · have ca := (row_cell Ra k).trans (valsK_get (by rw [HN.out.1]; exact hkl))
          have hx := HN.out.nth k
          have c0 := (row_cell Rc (2 * k)).trans (vals_get (by rw [fill_len _ _ _ (by rw [HUL.out]; rfl) (by rw [HUL.out]; omega)]; show 2 * k < 32; omega))
          have c1 := (row_cell Rc (2 * k + 1)).trans (vals_get (by rw [fill_len _ _ _ (by rw [HUL.out]; rfl) (by rw [HUL.out]; omega)]; show 2 * k + 1 < 32; omega))
          have fc := row_free Rc
          have u0 := undg_even k L (by rw [HN.out.1]; exact hkl)
          have u1 := undg_odd k L (by rw [HN.out.1]; exact hkl)
          have S2 := row_set (i := 2 * k + 1) (v := .int .u8 (nth L k / 256)) (row_set (i := 2 * k) (v := .int .u8 (nth L k % 256)) Rc)
          rw [vals_set, vals_set, ← u0, ← u1, fill_step _ _ _ (by rw [HUL.out]; omega) (by rw [HUL.out]; rfl), fill_step _ _ _ (by rw [HUL.out]; omega) (by rw [HUL.out]; rfl), u0, u1] at S2
          have HS := Lib.hid S2
          have H1 := Lib.hid Ra
          have H2 := Lib.hid Rb
          have w1 : IntKind.u8.wrap (nth L k) = nth L k % 256 := IntKind.wrap_u8 _
          have w2 : IntKind.u8.wrap (nth L k / 256) = nth L k / 256 := by rw [IntKind.wrap_u8]; omega
          clear Ra Rb Rc S2 u0 u1
          generalize nth L k = x at *
          go_wp2
          go_roundw
          case rel => exact ⟨k + 1, by omega, by go_num, row_set_other (row_set_other H1.out (by omega)) (by omega), row_set_other (row_set_other H2.out (by omega)) (by omega), HS.out, by go_grown⟩
          case measure => simp [intOf]; omega
        · obtain rfl : k = 16 := by omega
          have e16 : (undg L).take (2 * 16) ++ z32.drop (2 * 16) = bytesN n.val := by rw [List.take_of_length_le (by rw [HUL.out]; omega), HU.out]; exact List.append_nil _
          rw [e16] at Rc
          clear e16
          go_wp2_with (first | (refine ld_row rfl 22 (.tmp 5) rfl _ (by rfl) _ _ Rc 32 tBytes (by rw [vals_size, bytesN_len]) ?_) | (refine st_row rfl 22 (.tmp 2) _ rfl _ _ (by rfl) (by rfl) _ _ Rb 32 tBytes (by rw [vals_size, bytesN_len]) (by rfl) (vals_one _) ?_))
          refine ret_row rfl _ _ _ rfl (row_put Rb) 32 tBytes (by rw [vals_size, bytesN_len]) rfl ?_
          exact ⟨_, rfl, rfl, below_setRow Bk (by omega) _⟩
    · rw [decide_eq_false hlt]
      have HLT := Lib.hid hlt
      have hS := own2 Ra HN.out.1 Rb Bk
      have HSL := Lib.hid (show (subL L primeL).length = 16 by simp [subL, HN.out.1]; rfl)
      clear hlt Ra Rb Bk
      go_wp2_with fail
      obtain ⟨M, hM⟩ : ∃ M, M = w4.heap.size := ⟨_, rfl⟩
      refine hide_frame fun t0 HT => ?_
      have HS : t0.size = 63 := by rw [HT]; rfl
      have h1 : t0[1]? = some (.pointer (some ⟨w.heap.size, 0, none⟩)) := by rw [HT]; rfl
      have h2 : t0[2]? = some (.pointer (some ⟨(w.heap.size + 1), 0, none⟩)) := by rw [HT]; rfl
      refine wp_region_most 3 (fun i => [14, 15, 16].getD i 0) (fun _ => none) (fun i => [(· = .agg (valsK .i64 L)), (· = .agg (valsK .i64 primeL)), (· = .agg (valsK .i64 (subL L primeL)))].getD i (fun _ => True)) (fun w' => Own w [(w.heap.size, 16, (· = .agg (valsK .i64 L))), ((w.heap.size + 1), 32, (· = .agg (vals z32)))] w' ∧ M ≤ w'.heap.size) M
        (by kernel_rfl) (by kernel_rfl) (slots_apart (by kernel_rfl)) (slots_lie (by rw [HS]; kernel_rfl)) ⟨hS.drew, Nat.le_of_eq hM⟩ (fun w' h => h.2) (fun w1 w2 h b => ⟨h.1.keep b, Nat.le_trans h.2 b.size⟩) ?_ ?_ ?_
      · clear hS
        intro i o hi ho hA
        have hc : i = 0 ∨ i = 1 ∨ i = 2 := by omega
        rcases hc with rfl | rfl | rfl
        · obtain rfl := Option.some.inj ho
          refine ⟨rfl, fun a w' hS hold hin K hK => ?_⟩
          refine if_always rfl ?_
          exact op_ld_own 16 tNine (.tmp 1) rfl rfl _ (eval_tmp ((hold 1 (slots_not (by kernel_rfl))).trans h1)) hS.1 0 rfl hK
        · obtain rfl := Option.some.inj ho
          refine ⟨rfl, fun a w' hS hold hin K hK => ?_⟩
          refine if_always rfl ?_
          exact op_fn0 _  _  rfl rfl  (by intro args w; kernel_rfl) (prime9_any _) hK
        · obtain rfl := Option.some.inj ho
          refine ⟨rfl, fun a w' hS hold hin K hK => ?_⟩
          obtain ⟨y0, x0, rfl⟩ := hin 0 rfl (by omega) rfl
          obtain ⟨y1, x1, rfl⟩ := hin 1 rfl (by omega) rfl
          refine if_always rfl ?_
          exact op_fn2 _ _ _ _ _ _ rfl rfl (eval_tmp x0) (eval_tmp x1) (by intro args w; kernel_rfl) (minus9_any L primeL _ HN.out.1 rfl HN.out.tame primeL_norm.tame) hK
      · intro i o sz hi ho hA; cases hA
      clear hS
      intro t1 V1 hs hold hout hall hne hS
      have ef := frame_fill 3 (fun i => [14, 15, 16].getD i 0) hs hold (slots_apart (by kernel_rfl)) (slots_lie (by rw [HS]; kernel_rfl))
      replace HS := hs.trans HS
      replace hS := hS.1
      obtain ⟨x16, q16, v16⟩ : ∃ x, t1[16]? = some x ∧ ((· = .agg (valsK .i64 (subL L primeL)))) x := hout 2 (by omega) rfl
      replace h1 := (hold 1 (slots_not (by kernel_rfl))).trans h1
      replace h2 := (hold 2 (slots_not (by kernel_rfl))).trans h2
      clear hold hout hs hall hne
      simp only [List.drop_succ_cons, List.drop_zero]
      refine st_own 16 tNine rfl (.tmp 1) (.tmp 16) rfl rfl _ _ (eval_tmp h1) (eval_tmp q16) (V' := (· = .agg (valsK .i64 (subL L primeL)))) v16 (by_rowK HSL.out) hS 0 rfl fun V1' hS' _ => ?_
      replace hS : Own w [(w.heap.size, 16, (· = .agg (valsK .i64 (subL L primeL)))), ((w.heap.size + 1), 32, (· = .agg (vals z32)))] V1' := hS'
      clear hS'
      refine wpList_nil ?_
      rw [ef, HT]
      clear ef
      simp only [fillA, if_true, List.getD_cons_zero, List.getD_cons_succ, List.setIfInBounds_toArray, List.set_cons_zero, List.set_cons_succ]
      generalize t1.getD 14 undef = z14
      generalize t1.getD 15 undef = z15
      generalize t1.getD 16 undef = z16
      clear HT
      clear h1 h2 q16 v16 hM HS t1 t0 M
      obtain ⟨sp1, sp2, sp3, sp4⟩ := sub_prime HN.out HD.out
      have hSb : 0 ≤ dnum (subL L primeL) ∧ dnum (subL L primeL) < 115792089237316195423570985008687907853269984665640564039457584007913129639936 := by
        have := norm_bound HN.out
        have hge := HLT.out
        rw [primeL_num] at hge
        rw [sp1]; simp only [PI]; omega
      have hG2 : dnum (subL L primeL) < PI * (gk : Nat) := by rw [sp1]; have := HG.out; simp only [PI] at this ⊢; omega
      have hgk : 1 ≤ gk := by
        have := hSb.1
        refine Classical.byContradiction fun hn => ?_
        have : gk = 0 := by omega
        subst this
        simp only [PI] at hG2
        omega
      clear HG HLT HN HD
      generalize subL L primeL = S at *
      have HSB := Lib.hid hSb
      have HG2 := Lib.hid hG2
      have HS2 := Lib.hid sp2
      have HS3 := Lib.hid sp3
      have hS0 : Own w [(w.heap.size, 16, (· = .agg (valsK .i64 (mid15 S [] 0 0)))), (w.heap.size + 1, 32, (· = .agg (vals z32)))] V1' := by
        rw [show mid15 S [] 0 0 = S from by rw [mid15]; show (nth S 0 + 0) :: S.drop 1 = S; rw [Int.add_zero, ← drop_nth S 0 (by rw [HSL.out]; omega)]; rfl]
        exact hS
      clear hSb hG2 sp1 sp2 sp3 sp4 hS
      go_wp2_with fail
      go_loopw [3] (fun i wr => ∃ (k : Nat) (c : Int) (A : List Int), k ≤ 15 ∧ i = .int .i64 k ∧ A.length = k ∧ (∀ x ∈ A, 0 ≤ x ∧ x < 65536) ∧ (-2 ≤ c ∧ c ≤ 2) ∧ dnum A + 65536 ^ k * c = dnum (S.take k) ∧ Own w [(w.heap.size, 16, (· = .agg (valsK .i64 (mid15 S A c k)))), (w.heap.size + 1, 32, (· = .agg (vals z32)))] wr) (fun i _ => 15 - (intOf i).toNat)
      case atStart => exact ⟨0, 0, [], by omega, rfl, rfl, (fun x hx => by cases hx), by omega, by simp [dnum], hS0⟩
      case round =>
        clear hS0
        obtain ⟨k, c, A, hk, rfl, hA, hNA, hc, hd, hO⟩ := hrel
        by_cases hkl : k < 15
        · obtain ⟨tR, Ra⟩ := hO.rowK (i := 0) rfl
          have hml : (mid15 S A c k).length = 16 := by simp [mid15, hA, HSL.out]; omega
          have ca := (row_cell Ra k).trans (valsK_get (by rw [hml]; omega))
          rw [show nth (mid15 S A c k) k = nth S k + c from by rw [mid15, pre_nth _ _ _ _ hA]] at ca
          have cb := (row_cell Ra (k + 1)).trans (valsK_get (by rw [hml]; omega))
          rw [show nth (mid15 S A c k) (k + 1) = nth S (k + 1) from by rw [mid15, drop_nth S (k + 1) (by rw [HSL.out]; omega), show A ++ (nth S k + c) :: nth S (k + 1) :: S.drop (k + 1 + 1) = (A ++ [nth S k + c]) ++ nth S (k + 1) :: S.drop (k + 1 + 1) by simp, pre_nth _ _ _ _ (by simp [hA])]] at cb
          have fa := row_free Ra
          have hx := HS3.out k
          have hy := HS3.out (k + 1)
          have HD := Lib.hid (car_step (by rw [HSL.out]; omega) hA hd)
          have e1 : nth S k + c - (nth S k + c) / 65536 * 65536 = (nth S k + c) % 65536 := by have := Int.mul_ediv_add_emod (nth S k + c) 65536; omega
          have HN2 := Lib.hid (show ∀ x ∈ A ++ [nth S k + c - (nth S k + c) / 65536 * 65536], 0 ≤ x ∧ x < 65536 from fun x hx' => by
            rw [List.mem_append] at hx'
            rcases hx' with h | h
            · exact hNA x h
            · rw [List.mem_singleton] at h; rw [h, e1]; omega)
          have HA := Lib.hid hA
          rw [← e1] at HD
          have HCD := Lib.hid (show -2 ≤ (nth S k + c) / 65536 ∧ (nth S k + c) / 65536 ≤ 2 by omega)
          have hq : -65537 ≤ nth S k + c ∧ nth S k + c ≤ 65537 := by omega
          have hO2 := (hO.word (i := 0) rfl k (nth S k + c - (nth S k + c) / 65536 * 65536)).word (i := 0) rfl (k + 1) (nth S (k + 1) + (nth S k + c) / 65536)
          rw [mid15_step HSL.out hA hkl _ _ rfl] at hO2
          simp only [List.set_cons_zero] at hO2
          have HO2 := Lib.hid hO2
          clear hO hO2 Ra hd hNA e1 hml hA
          generalize nth S k + c = q at *
          go_wp2_with fail
          go_roundw
          case rel => exact ⟨k + 1, q / 65536, A ++ [q - q / 65536 * 65536], by omega, by go_num, by simp [HA.out], HN2.out, HCD.out, HD.out, HO2.out⟩
          case measure => simp [intOf]; omega
        · obtain rfl : k = 15 := by omega
          obtain ⟨m1, m2⟩ := mid15_last HSL.out hA hNA hd HSB.out
          have HM1 := Lib.hid m1
          have HM2 := Lib.hid m2
          have HO := Lib.hid hO
          clear m1 m2 hO hd hNA
          go_wp2_with fail
          go_roundg (gk - 1)
          case measure => omega
          case rel => exact ⟨_, HM1.out, by rw [HM2.out]; exact HS2.out, by rw [HM2.out, show gk - 1 + 1 = gk by omega]; exact HG2.out, HO.out⟩
end Go.Proofs.Ytciakfhjjnmeeaa

namespace Go.Proofs.Ytciakfhjjnmeeaa
open Go.RowKit Nt Edw

theorem isN_row {n : F} {x : Value} (h : IsN n x) : ∃ cs, x = .agg cs ∧ cs.size = 16 ∧ cs.all (·.oneCell') = true := by
  obtain ⟨l, rfl, h⟩ := h; exact ⟨_, rfl, by rw [valsK_size, h.1], valsK_one _ _⟩
theorem isW_row {n : F} {x : Value} (h : IsW n x) : ∃ cs, x = .agg cs ∧ cs.size = 16 ∧ cs.all (·.oneCell') = true := by
  obtain ⟨l, rfl, h⟩ := h; exact ⟨_, rfl, by rw [valsK_size, h.1], valsK_one _ _⟩
theorem Tg.small {n : F} {l : List Int} (h : Tg n l) : ∀ x ∈ l, -1099511627776 ≤ x ∧ x ≤ 1099511627776 := fun x hx => by have := h.mem x hx; omega
theorem Wide9.small {n : F} {l : List Int} (h : Wide9 n l) : ∀ x ∈ l, -1099511627776 ≤ x ∧ x ≤ 1099511627776 := fun x hx => by have := h.mem x hx; omega
section
variable {x y : Value} {n m : F}
theorem plus9_ev (hx : IsN n x) (hy : IsN m y) (w : World) : Calls Try.prog 117 #[x, y] w (Gives (IsW (n + m)) w) := by
  obtain ⟨a, rfl, ha⟩ := hx; obtain ⟨b, rfl, hb⟩ := hy
  exact (plus9_any a b w ha.1 hb.1 ha.small hb.small).mono fun _ _ ⟨r, e1, e2, e3⟩ => ⟨r, e1, ⟨_, e2, addL_wide ha hb⟩, e3⟩
theorem minus9_ev (hx : IsN n x) (hy : IsN m y) (w : World) : Calls Try.prog 118 #[x, y] w (Gives (IsW (n - m)) w) := by
  obtain ⟨a, rfl, ha⟩ := hx; obtain ⟨b, rfl, hb⟩ := hy
  exact (minus9_any a b w ha.1 hb.1 ha.small hb.small).mono fun _ _ ⟨r, e1, e2, e3⟩ => ⟨r, e1, ⟨_, e2, subL_wide ha hb⟩, e3⟩
theorem times9_ev (hx : IsW n x) (hy : IsW m y) (w : World) : Calls Try.prog 95 #[x, y] w (Gives (IsN (n * m)) w) := by
  obtain ⟨a, rfl, ha⟩ := hx; obtain ⟨b, rfl, hb⟩ := hy
  exact times9_list a b n m w ha hb
theorem small9_one (w : World) : Calls Try.prog 116 #[.int .i64 1] w (Gives (IsN 1) w) :=
  (small9_any 1 w).mono fun _ _ ⟨r, e1, e2, e3⟩ => ⟨r, e1, ⟨_, e2, smallL_tight 1 (by omega) 1 (by decide)⟩, e3⟩
theorem small9_zero (w : World) : Calls Try.prog 116 #[.int .i64 0] w (Gives (IsN 0) w) :=
  (small9_any 0 w).mono fun _ _ ⟨r, e1, e2, e3⟩ => ⟨r, e1, ⟨_, e2, smallL_tight 0 (by omega) 0 (by decide)⟩, e3⟩
theorem small9_wide (w : World) : Calls Try.prog 116 #[.int .i64 121665] w (Gives (IsW 121665) w) :=
  (small9_any 121665 w).mono fun _ _ ⟨r, e1, e2, e3⟩ => ⟨r, e1, ⟨_, e2, smallL_wide 121665 (by omega) 121665 (by decide)⟩, e3⟩
theorem of9_ev (l : List Int) (hl : l.length = 32) (hb : Byt l) {n : F} (h : numF l = n) (w : World) : Calls Try.prog 115 #[.agg (vals l)] w (Gives (IsN n) w) := by
  subst h
  exact (of9_any l w hl hb).mono fun _ _ ⟨r, e1, e2, e3⟩ => ⟨r, e1, ⟨_, e2, ofL_tight l hl hb⟩, e3⟩
theorem bytes9_ev (hx : IsN n x) (w : World) : Calls Try.prog 94 #[x] w (Gives (· = .agg (vals (bytesN n.val))) w) := by
  obtain ⟨a, rfl, ha⟩ := hx
  exact bytes9_list a n w ha
end
theorem inv_bits (j : Nat) (h : j < 255) : ((P - 2) / 2 ^ j % 2 = 1) = (j ≠ 2 ∧ j ≠ 4) := by
  have : ∀ j : Fin 255, decide ((P - 2) / 2 ^ j.val % 2 = 1) = decide (j.val ≠ 2 ∧ j.val ≠ 4) := by decide +kernel
  exact propext (decide_eq_decide.1 (this ⟨j, h⟩))

set_option maxHeartbeats 4000000 in
set_option maxRecDepth 100000 in
theorem invert9_ev {x : Value} {n r : F} (hx : IsN n x) (hr : inv n = r) (w : World) : Calls Try.prog 96 #[x] w (Gives (IsN r) w) := by
  obtain ⟨l, rfl, hl⟩ := hx
  obtain ⟨VV, hVV⟩ : ∃ V : Nat, V = P - 2 := ⟨_, rfl⟩
  have hbits : ∀ j, j < 255 → (VV / 2 ^ j % 2 = 1) = (j ≠ 2 ∧ j ≠ 4) := by rw [hVV]; exact inv_bits
  have htop : VV / 2 ^ 255 = 0 := by rw [hVV]; decide
  have hrr : n ^ VV = r := by rw [hVV]; exact hr
  have HBITS := Lib.hid hbits
  have HTOP := Lib.hid htop
  have HRR := Lib.hid hrr
  have hS : Own w [(w.heap.size, 16, IsN n), (w.heap.size + 1, 16, (fun _ => True))] ((w.alloc (.cells (valsK .i64 l) 131)).alloc (.cells (valsK .i64 z16) 131)) := by
    have a0 : Own w [] ((w.alloc (.cells (valsK .i64 l) 131)).alloc (.cells (valsK .i64 z16) 131)) := Own.of_below (by go_grown)
    have a1 := a0.add (g := w.heap.size) (n := 16) (V := IsN n) (Nat.le_refl _) (fun r hr => by cases hr) ⟨_, _, new2_0 .., by rw [valsK_size, hl.1], ⟨l, rfl, hl⟩⟩
    exact a1.add (g := w.heap.size + 1) (n := 16) (V := fun _ => True) (by omega) (by simp) ⟨_, _, new2_1 .., rfl, trivial⟩
  clear hbits htop hrr hr hVV hl
  go_enter Try.func96, Try.ntmps96
  go_wp2_with ((with_reducible refine guard_list ?_); first | (refine held_load 26 _ rfl ?_) | (refine held_load 22 _ rfl ?_) | (refine held_load 68 _ rfl ?_) | (refine held_call _ rfl ?_) | (refine held_load 131 _ rfl ?_))
  change Held (wpList _ _ _ _ _ ((w.alloc (.cells (valsK .i64 l) 131)).alloc (.cells (valsK .i64 z16) 131)))
  generalize (w.alloc (.cells (valsK .i64 l) 131)).alloc (.cells (valsK .i64 z16) 131) = W0 at hS ⊢
  obtain ⟨M, hM⟩ : ∃ M, M = W0.heap.size := ⟨_, rfl⟩
  have hMB : w.heap.size ≤ M := hM ▸ hS.1.size
  have ltM := hS.lt
  rw [← hM] at ltM
  refine hide_held fun t0 HT => ?_
  have HS : t0.size = 23 := by rw [HT]; rfl
  have h1 : t0[1]? = some (.pointer (some ⟨w.heap.size, 0, none⟩)) := by rw [HT]; rfl
  have h2 : t0[2]? = some (.pointer (some ⟨(w.heap.size + 1), 0, none⟩)) := by rw [HT]; rfl
  clear HT
  refine wp_list_most 2 (fun i => [5, 3].getD i 0) (fun i => [none, some 16].getD i none) (fun i => [IsN (1 : F), (fun _ => True)].getD i (fun _ => True)) (fun w' => Own w [(w.heap.size, 16, IsN n), ((w.heap.size + 1), 16, (fun _ => True))] w' ∧ M ≤ w'.heap.size) M
    (by kernel_rfl) (slots_apart (by kernel_rfl)) (slots_lie (by rw [HS]; kernel_rfl)) ⟨hS, Nat.le_of_eq hM⟩ (fun w' h => h.2) (fun w1 w2 h b => ⟨h.1.keep b, Nat.le_trans h.2 b.size⟩) ?_ ?_ ?_
  · clear hS
    intro i o hi ho hA
    have hc : i = 0 ∨ i = 1 := by omega
    rcases hc with rfl | rfl
    · obtain rfl := Option.some.inj ho
      refine ⟨rfl, fun a w' hS hold hin K hK => ?_⟩
      refine if_always rfl ?_
      exact op_fn1 _ _ _ _ rfl rfl rfl (by intro args w; kernel_rfl) (small9_one _) hK
    · cases hA
  · intro i o sz hi ho hA
    have hc : i = 0 ∨ i = 1 := by omega
    rcases hc with rfl | rfl
    · cases hA
    · obtain rfl := Option.some.inj ho
      obtain rfl := Option.some.inj hA
      exact ⟨rfl, rfl, 131, #[.int .i64 0, .int .i64 0, .int .i64 0, .int .i64 0, .int .i64 0, .int .i64 0, .int .i64 0, .int .i64 0, .int .i64 0, .int .i64 0, .int .i64 0, .int .i64 0, .int .i64 0, .int .i64 0, .int .i64 0, .int .i64 0], rfl, fun a w' K h => wp_new 131 #[.int .i64 0, .int .i64 0, .int .i64 0, .int .i64 0, .int .i64 0, .int .i64 0, .int .i64 0, .int .i64 0, .int .i64 0, .int .i64 0, .int .i64 0, .int .i64 0, .int .i64 0, .int .i64 0, .int .i64 0, .int .i64 0] (fun w => by kernel_rfl) h⟩
  clear hS
  intro t1 V1 hs hold hout hall hne hS
  replace HS := hs.trans HS
  replace hS := hS.1
  obtain ⟨g3, h3, b3, r3⟩ : ∃ g, t1[3]? = some (.pointer (some ⟨g, 0, none⟩)) ∧ M ≤ g ∧ ∃ cs ty, V1.heap[g]? = some (.cells cs ty (0, 0)) ∧ cs.size = 16 := by
    obtain ⟨g, p1, p2, ty, cs, p3, p4⟩ := hall 1 (by omega) 16 rfl
    exact ⟨g, p1, p2, cs, ty, p3, p4⟩
  replace hS : Own w [(w.heap.size, 16, IsN n), ((w.heap.size + 1), 16, (fun _ => True)), (g3, 16, (fun _ => True))] V1 := hS.add (Nat.le_trans hMB b3) (fun r hr => Nat.ne_of_lt (Nat.lt_of_lt_of_le (ltM r hr) b3)) (Own.any r3)
  obtain ⟨x5, q5, v5⟩ : ∃ x, t1[5]? = some x ∧ (IsN (1 : F)) x := hout 0 (by omega) rfl
  replace h1 := (hold 1 (slots_not (by kernel_rfl))).trans h1
  replace h2 := (hold 2 (slots_not (by kernel_rfl))).trans h2
  clear hold hout hs hall hne
  simp only [List.drop_succ_cons, List.drop_zero]
  refine st_own 16 tNine rfl (.tmp 3) (.tmp 5) rfl rfl _ _ (eval_tmp h3) (eval_tmp q5) (V' := IsN (1 : F)) v5 (fun x hx => isN_row hx) hS 2 rfl fun V1' hS' _ => ?_
  replace hS : Own w [(w.heap.size, 16, IsN n), ((w.heap.size + 1), 16, (fun _ => True)), (g3, 16, IsN (1 : F))] V1' := hS'
  clear hS'
  refine wpList_nil ?_
  obtain ⟨f, e0, hf⟩ := wash HS
  have f1 := hf 1 _ h1
  have f2 := hf 2 _ h2
  have f3 := hf 3 _ h3
  clear hf
  rw [e0.trans (show _ = #[f 0, f 1, f 2, f 3, f 4, f 5, f 6, f 7, f 8, f 9, f 10, f 11, f 12, f 13, f 14, f 15, f 16, f 17, f 18, f 19, f 20, f 21, f 22] from by kernel_rfl), f1, f2, f3]
  clear f1 f2 f3
  clear e0
  try dsimp only
  clear h1 h2 h3 q5 v5 b3 r3 ltM hMB hM HS t1 t0 M
  go_wp2_with fail
  go_loopw [4] (fun i wr => ∃ k : Nat, k ≤ 255 ∧ i = .int .i64 ((k : Int) - 1) ∧ Own w [(w.heap.size, 16, IsN n), ((w.heap.size + 1), 16, (fun _ => True)), (g3, 16, IsN (n ^ (VV / 2 ^ k)))] wr) (fun i _ => (intOf i + 1).toNat)
  case atStart => exact ⟨255, by omega, rfl, by rw [HTOP.out, pow_zero]; exact hS⟩
  case round =>
    obtain ⟨k, hk, rfl, hS1⟩ := hrel
    clear hS
    cases k with
    | zero =>
      have hS2 : Own w [(w.heap.size, 16, IsN n), ((w.heap.size + 1), 16, (fun _ => True)), (g3, 16, IsN r)] wr := by
        have e : n ^ (VV / 2 ^ 0) = r := by rw [← HRR.out]; simp
        rw [e] at hS1; exact hS1
      clear hS1
      go_wp2_with ((with_reducible refine guard_list ?_); first | (refine held_load 26 _ rfl ?_) | (refine held_load 22 _ rfl ?_) | (refine held_load 68 _ rfl ?_) | (refine held_load 131 _ rfl ?_))
      have hS := hS2
      clear hS2
      obtain ⟨M, hM⟩ : ∃ M, M = wr.heap.size := ⟨_, rfl⟩
      refine hide_held fun t0 HT => ?_
      have HS : t0.size = 23 := by rw [HT]; rfl
      have h1 : t0[1]? = some (.pointer (some ⟨w.heap.size, 0, none⟩)) := by rw [HT]; rfl
      have h2 : t0[2]? = some (.pointer (some ⟨(w.heap.size + 1), 0, none⟩)) := by rw [HT]; rfl
      have h3 : t0[3]? = some (.pointer (some ⟨g3, 0, none⟩)) := by rw [HT]; rfl
      clear HT
      refine wp_list_most 1 (fun i => [22].getD i 0) (fun _ => none) (fun i => [IsN r].getD i (fun _ => True)) (fun w' => Own w [(w.heap.size, 16, IsN n), ((w.heap.size + 1), 16, (fun _ => True)), (g3, 16, IsN r)] w' ∧ M ≤ w'.heap.size) M
        (by kernel_rfl) (slots_apart (by kernel_rfl)) (slots_lie (by rw [HS]; kernel_rfl)) ⟨hS, Nat.le_of_eq hM⟩ (fun w' h => h.2) (fun w1 w2 h b => ⟨h.1.keep b, Nat.le_trans h.2 b.size⟩) ?_ ?_ ?_
      · clear hS
        intro i o hi ho hA
        have hc : i = 0 := by omega
        rcases hc with rfl
        · obtain rfl := Option.some.inj ho
          refine ⟨rfl, fun a w' hS hold hin K hK => ?_⟩
          refine if_always rfl ?_
          exact op_ld_own 16 tNine (.tmp 3) rfl rfl _ (eval_tmp ((hold 3 (slots_not (by kernel_rfl))).trans h3)) hS.1 2 rfl hK
      · intro i o sz hi ho hA; cases hA
      clear hS
      intro t1 V2 hs hold hout hall hne hS
      replace HS := hs.trans HS
      replace hS := hS.1
      obtain ⟨x22, q22, v22⟩ : ∃ x, t1[22]? = some x ∧ (IsN r) x := hout 0 (by omega) rfl
      replace h1 := (hold 1 (slots_not (by kernel_rfl))).trans h1
      replace h2 := (hold 2 (slots_not (by kernel_rfl))).trans h2
      replace h3 := (hold 3 (slots_not (by kernel_rfl))).trans h3
      clear hold hout hs hall hne
      simp only [List.drop_succ_cons, List.drop_zero]
      refine st_own 16 tNine rfl (.tmp 2) (.tmp 22) rfl rfl _ _ (eval_tmp h2) (eval_tmp q22) (V' := IsN r) v22 (fun x hx => isN_row hx) hS 1 rfl fun V2' hS' _ => ?_
      replace hS : Own w [(w.heap.size, 16, IsN n), ((w.heap.size + 1), 16, IsN r), (g3, 16, IsN r)] V2' := hS'
      clear hS'
      refine wpList_nil ?_
      obtain ⟨f, e0, hf⟩ := wash HS
      have f1 := hf 1 _ h1
      have f2 := hf 2 _ h2
      have f3 := hf 3 _ h3
      clear hf
      rw [e0.trans (show _ = #[f 0, f 1, f 2, f 3, f 4, f 5, f 6, f 7, f 8, f 9, f 10, f 11, f 12, f 13, f 14, f 15, f 16, f 17, f 18, f 19, f 20, f 21, f 22] from by kernel_rfl), f1, f2, f3]
      clear f1 f2 f3
      clear e0
      try dsimp only
      clear h1 h2 h3 q22 v22 hM HS t1 t0 M
      obtain ⟨cs, ct, c1, c2, c3⟩ := hS.get (i := 1) rfl
      have hbel := hS.1
      have C3 := Lib.hid c3
      clear hS c3
      go_wp2_with fail
      refine ret_row rfl _ _ _ rfl c1 16 tNine c2 rfl ?_
      exact ⟨_, rfl, C3.out, hbel⟩
    | succ j =>
      obtain ⟨sq, hsq⟩ : ∃ s, s = n ^ (VV / 2 ^ (j + 1)) := ⟨_, rfl⟩
      rw [← hsq] at hS1
      have HSQ := Lib.hid hsq
      clear hsq
      have hS := hS1
      clear hS1
      rw [show ((j + 1 : Nat) : Int) - 1 = (j : Int) by omega]
      go_wp2_with ((with_reducible refine guard_list ?_); first | (refine held_load 26 _ rfl ?_) | (refine held_load 22 _ rfl ?_) | (refine held_load 68 _ rfl ?_) | (refine held_load 131 _ rfl ?_))
      obtain ⟨M, hM⟩ : ∃ M, M = wr.heap.size := ⟨_, rfl⟩
      refine hide_held fun t0 HT => ?_
      have HS : t0.size = 23 := by rw [HT]; rfl
      have h1 : t0[1]? = some (.pointer (some ⟨w.heap.size, 0, none⟩)) := by rw [HT]; rfl
      have h2 : t0[2]? = some (.pointer (some ⟨(w.heap.size + 1), 0, none⟩)) := by rw [HT]; rfl
      have h3 : t0[3]? = some (.pointer (some ⟨g3, 0, none⟩)) := by rw [HT]; rfl
      have h4 : t0[4]? = some (.int .i64 (j : Int)) := by rw [HT]; rfl
      refine wp_list_most 3 (fun i => [10, 11, 12].getD i 0) (fun _ => none) (fun i => [IsN sq, IsN sq, IsN (sq * sq)].getD i (fun _ => True)) (fun w' => Own w [(w.heap.size, 16, IsN n), ((w.heap.size + 1), 16, (fun _ => True)), (g3, 16, IsN sq)] w' ∧ M ≤ w'.heap.size) M
        (by kernel_rfl) (slots_apart (by kernel_rfl)) (slots_lie (by rw [HS]; kernel_rfl)) ⟨hS, Nat.le_of_eq hM⟩ (fun w' h => h.2) (fun w1 w2 h b => ⟨h.1.keep b, Nat.le_trans h.2 b.size⟩) ?_ ?_ ?_
      · clear hS
        intro i o hi ho hA
        have hc : i = 0 ∨ i = 1 ∨ i = 2 := by omega
        rcases hc with rfl | rfl | rfl
        · obtain rfl := Option.some.inj ho
          refine ⟨rfl, fun a w' hS hold hin K hK => ?_⟩
          refine if_always rfl ?_
          exact op_ld_own 16 tNine (.tmp 3) rfl rfl _ (eval_tmp ((hold 3 (slots_not (by kernel_rfl))).trans h3)) hS.1 2 rfl hK
        · obtain rfl := Option.some.inj ho
          refine ⟨rfl, fun a w' hS hold hin K hK => ?_⟩
          refine if_always rfl ?_
          exact op_ld_own 16 tNine (.tmp 3) rfl rfl _ (eval_tmp ((hold 3 (slots_not (by kernel_rfl))).trans h3)) hS.1 2 rfl hK
        · obtain rfl := Option.some.inj ho
          refine ⟨rfl, fun a w' hS hold hin K hK => ?_⟩
          obtain ⟨y0, x0, (v0 : IsN sq y0)⟩ := hin 0 rfl (by omega) rfl
          obtain ⟨y1, x1, (v1 : IsN sq y1)⟩ := hin 1 rfl (by omega) rfl
          refine if_always rfl ?_
          exact op_fn2 _ _ _ _ _ _ rfl rfl (eval_tmp x0) (eval_tmp x1) (by intro args w; kernel_rfl) (times9_ev (v0).wide (v1).wide _) hK
      · intro i o sz hi ho hA; cases hA
      clear hS
      intro t1 V2 hs hold hout hall hne hS
      have ef := frame_fill 3 (fun i => [10, 11, 12].getD i 0) hs hold (slots_apart (by kernel_rfl)) (slots_lie (by rw [HS]; kernel_rfl))
      replace HS := hs.trans HS
      replace hS := hS.1
      obtain ⟨x12, q12, v12⟩ : ∃ x, t1[12]? = some x ∧ (IsN (sq * sq)) x := hout 2 (by omega) rfl
      replace h1 := (hold 1 (slots_not (by kernel_rfl))).trans h1
      replace h2 := (hold 2 (slots_not (by kernel_rfl))).trans h2
      replace h3 := (hold 3 (slots_not (by kernel_rfl))).trans h3
      replace h4 := (hold 4 (slots_not (by kernel_rfl))).trans h4
      clear hold hout hs hall hne
      simp only [List.drop_succ_cons, List.drop_zero]
      refine st_own 16 tNine rfl (.tmp 3) (.tmp 12) rfl rfl _ _ (eval_tmp h3) (eval_tmp q12) (V' := IsN (sq * sq)) v12 (fun x hx => isN_row hx) hS 2 rfl fun V2' hS' _ => ?_
      replace hS : Own w [(w.heap.size, 16, IsN n), ((w.heap.size + 1), 16, (fun _ => True)), (g3, 16, IsN (sq * sq))] V2' := hS'
      clear hS'
      refine wpList_nil ?_
      rw [ef, HT]
      clear ef
      simp only [fillA, if_true, List.getD_cons_zero, List.getD_cons_succ, List.setIfInBounds_toArray, List.set_cons_zero, List.set_cons_succ]
      generalize t1.getD 10 undef = z10
      generalize t1.getD 11 undef = z11
      generalize t1.getD 12 undef = z12
      clear HT
      clear h1 h2 h3 h4 q12 v12 hM HS t1 t0 M
      have hS1 := Lib.hid hS
      clear hS
      have hpb := pow_bit n VV j
      rw [← HSQ.out] at hpb
      have HPB := Lib.hid hpb
      clear hpb
      by_cases h24 : j ≠ 2 ∧ j ≠ 4
      · have hend : n ^ (VV / 2 ^ j) = sq * sq * n := by have h := HPB.out; rw [if_pos ((HBITS.out j (by omega)).mpr h24)] at h; exact h
        have HEND := Lib.hid hend
        clear hend
        obtain ⟨h2, h4⟩ := h24
        have t2 : ((j : Int) != 2) = true := by simp; omega
        have t4 : ((j : Int) != 4) = true := by simp; omega
        clear h2 h4
        go_wp2_with ((with_reducible refine guard_list ?_); first | (refine held_load 26 _ rfl ?_) | (refine held_load 22 _ rfl ?_) | (refine held_load 68 _ rfl ?_) | (refine held_load 131 _ rfl ?_))
        have hS := hS1.out
        clear hS1 t2 t4
        obtain ⟨M, hM⟩ : ∃ M, M = V2'.heap.size := ⟨_, rfl⟩
        refine hide_held fun t0 HT => ?_
        have HS : t0.size = 23 := by rw [HT]; rfl
        have h1 : t0[1]? = some (.pointer (some ⟨w.heap.size, 0, none⟩)) := by rw [HT]; rfl
        have h2 : t0[2]? = some (.pointer (some ⟨(w.heap.size + 1), 0, none⟩)) := by rw [HT]; rfl
        have h3 : t0[3]? = some (.pointer (some ⟨g3, 0, none⟩)) := by rw [HT]; rfl
        have h4 : t0[4]? = some (.int .i64 (j : Int)) := by rw [HT]; rfl
        refine wp_list_most 3 (fun i => [19, 20, 21].getD i 0) (fun _ => none) (fun i => [IsN (sq * sq), IsN n, IsN ((sq * sq) * n)].getD i (fun _ => True)) (fun w' => Own w [(w.heap.size, 16, IsN n), ((w.heap.size + 1), 16, (fun _ => True)), (g3, 16, IsN (sq * sq))] w' ∧ M ≤ w'.heap.size) M
          (by kernel_rfl) (slots_apart (by kernel_rfl)) (slots_lie (by rw [HS]; kernel_rfl)) ⟨hS, Nat.le_of_eq hM⟩ (fun w' h => h.2) (fun w1 w2 h b => ⟨h.1.keep b, Nat.le_trans h.2 b.size⟩) ?_ ?_ ?_
        · clear hS
          intro i o hi ho hA
          have hc : i = 0 ∨ i = 1 ∨ i = 2 := by omega
          rcases hc with rfl | rfl | rfl
          · obtain rfl := Option.some.inj ho
            refine ⟨rfl, fun a w' hS hold hin K hK => ?_⟩
            refine if_always rfl ?_
            exact op_ld_own 16 tNine (.tmp 3) rfl rfl _ (eval_tmp ((hold 3 (slots_not (by kernel_rfl))).trans h3)) hS.1 2 rfl hK
          · obtain rfl := Option.some.inj ho
            refine ⟨rfl, fun a w' hS hold hin K hK => ?_⟩
            refine if_always rfl ?_
            exact op_ld_own 16 tNine (.tmp 1) rfl rfl _ (eval_tmp ((hold 1 (slots_not (by kernel_rfl))).trans h1)) hS.1 0 rfl hK
          · obtain rfl := Option.some.inj ho
            refine ⟨rfl, fun a w' hS hold hin K hK => ?_⟩
            obtain ⟨y0, x0, (v0 : IsN (sq * sq) y0)⟩ := hin 0 rfl (by omega) rfl
            obtain ⟨y1, x1, (v1 : IsN n y1)⟩ := hin 1 rfl (by omega) rfl
            refine if_always rfl ?_
            exact op_fn2 _ _ _ _ _ _ rfl rfl (eval_tmp x0) (eval_tmp x1) (by intro args w; kernel_rfl) (times9_ev (v0).wide (v1).wide _) hK
        · intro i o sz hi ho hA; cases hA
        clear hS
        intro t1 V3 hs hold hout hall hne hS
        have ef := frame_fill 3 (fun i => [19, 20, 21].getD i 0) hs hold (slots_apart (by kernel_rfl)) (slots_lie (by rw [HS]; kernel_rfl))
        replace HS := hs.trans HS
        replace hS := hS.1
        obtain ⟨x21, q21, v21⟩ : ∃ x, t1[21]? = some x ∧ (IsN ((sq * sq) * n)) x := hout 2 (by omega) rfl
        replace h1 := (hold 1 (slots_not (by kernel_rfl))).trans h1
        replace h2 := (hold 2 (slots_not (by kernel_rfl))).trans h2
        replace h3 := (hold 3 (slots_not (by kernel_rfl))).trans h3
        replace h4 := (hold 4 (slots_not (by kernel_rfl))).trans h4
        clear hold hout hs hall hne
        simp only [List.drop_succ_cons, List.drop_zero]
        refine st_own 16 tNine rfl (.tmp 3) (.tmp 21) rfl rfl _ _ (eval_tmp h3) (eval_tmp q21) (V' := IsN ((sq * sq) * n)) v21 (fun x hx => isN_row hx) hS 2 rfl fun V3' hS' _ => ?_
        replace hS : Own w [(w.heap.size, 16, IsN n), ((w.heap.size + 1), 16, (fun _ => True)), (g3, 16, IsN ((sq * sq) * n))] V3' := hS'
        clear hS'
        refine wpList_nil ?_
        rw [ef, HT]
        clear ef
        simp only [fillA, if_true, List.getD_cons_zero, List.getD_cons_succ, List.setIfInBounds_toArray, List.set_cons_zero, List.set_cons_succ]
        generalize t1.getD 19 undef = z19
        generalize t1.getD 20 undef = z20
        generalize t1.getD 21 undef = z21
        clear HT
        clear h1 h2 h3 h4 q21 v21 hM HS t1 t0 M
        have hS2 := Lib.hid (show Own w [(w.heap.size, 16, IsN n), ((w.heap.size + 1), 16, (fun _ => True)), (g3, 16, IsN (n ^ (VV / 2 ^ j)))] V3' from by rw [HEND.out]; exact hS)
        clear hS
        go_wp2_with fail
        go_roundw
        case rel => exact ⟨j, by omega, rfl, hS2.out⟩
        case measure => simp [intOf]
      · have t24 : (j : Int) = 2 ∨ (j : Int) = 4 := by omega
        have hend : n ^ (VV / 2 ^ j) = sq * sq := by have h := HPB.out; rw [if_neg (fun hc => h24 ((HBITS.out j (by omega)).mp hc))] at h; exact h
        have HEND := Lib.hid hend
        clear hend h24
        have hS2 := Lib.hid (show Own w [(w.heap.size, 16, IsN n), ((w.heap.size + 1), 16, (fun _ => True)), (g3, 16, IsN (n ^ (VV / 2 ^ j)))] V2' from by rw [HEND.out]; exact hS1.out)
        clear hS1
        rcases t24 with t2 | t4
        · have hj : ((j : Int) != 2) = false := by simp [t2]
          clear t2
          go_wp2_with fail
          go_roundw
          case rel => exact ⟨j, by omega, rfl, hS2.out⟩
          case measure => simp [intOf]
        · have hj : ((j : Int) != 4) = false := by simp [t4]
          have hj2 : ((j : Int) != 2) = true := by simp; omega
          clear t4
          go_wp2_with fail
          go_roundw
          case rel => exact ⟨j, by omega, rfl, hS2.out⟩
          case measure => simp [intOf]
end Go.Proofs.Ytciakfhjjnmeeaa
