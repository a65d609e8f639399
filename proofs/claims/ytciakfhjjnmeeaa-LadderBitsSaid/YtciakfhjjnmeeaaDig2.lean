/- Plain arithmetic: sixteen digits brought below 2^255 - 19, as the reference does it. No condition. -/
import Derived.Test.YtciakfhjjnmeeaaDig
namespace Go.Proofs.Ytciakfhjjnmeeaa
open Nt

theorem dnum_le (M : Int) : ∀ l : List Int, (∀ x ∈ l, 0 ≤ x ∧ x ≤ M) → 0 ≤ dnum l ∧ dnum l * 65535 ≤ M * (65536 ^ l.length - 1)
  | [], _ => by simp [dnum]
  | b :: r, h => by
    have hb := h b (by simp)
    have hr := dnum_le M r (fun x hx => h x (by simp [hx]))
    simp only [dnum, List.length_cons, Int.pow_succ]
    refine ⟨by omega, ?_⟩
    rw [Int.mul_sub] at hr
    have e : M * (65536 ^ r.length * 65536 - 1) = 65536 * (M * 65536 ^ r.length) - M := by grind
    rw [e]
    omega

theorem dnum_set0 (l : List Int) (v : Int) (h : 0 < l.length) : dnum (l.set 0 v) = dnum l + (v - nth l 0) := by
  rw [dnum_set l 0 v h]; simp

/-- Where the reference stands behind k turns. -/
def St (k : Nat) (n : F) (l : List Int) : Prop :=
  l.length = 16 ∧ (∀ x ∈ l, 0 ≤ x ∧ x < 2251799813685248) ∧ dnum l % 57896044618658097711785492504343953926634992332820282019728792003956564819949 = (n.val : Int) ∧
  (k = 1 → dnum l < 115792089237316195423570985008687907853269984665640564039457584012311176151040) ∧
  (2 ≤ k → dnum l < 115792089237316195423570985008687907853269984665640564039457584007913129639936) ∧ (3 ≤ k → Norm l)

theorem St.step {k : Nat} {n : F} {l L : List Int} {c : Int} (h : St k n l) (hL : Norm L) (hc : 0 ≤ c) (hd : dnum l = dnum L + 65536 ^ 16 * c) :
    c ≤ 68719476736 ∧ St (k + 1) n (L.set 0 (nth L 0 + 38 * c)) := by
  obtain ⟨h1, h2, h3, h4, h5, h6⟩ := h
  have hb := dnum_le 2251799813685247 l (fun x hx => by have := h2 x hx; omega)
  rw [h1] at hb
  have hLb := dnum_bound L hL.2
  rw [hL.1] at hLb
  have hn := hL.nth 0
  have hcb : c ≤ 34360262700 := by omega
  have hd0 := dnum_set0 L (nth L 0 + 38 * c) (by rw [hL.1]; omega)
  have hd1 : dnum (L.set 0 (nth L 0 + 38 * c)) = dnum L + 38 * c := by rw [hd0]; omega
  clear hd0
  refine ⟨by omega, by simp [hL.1], ?_, ?_, ?_, ?_, ?_⟩
  · intro x hx
    rcases List.mem_or_eq_of_mem_set hx with h | h
    · have := hL.2 x h; omega
    · subst h; omega
  · rw [hd1]
    have e : dnum l = dnum L + 38 * c + 57896044618658097711785492504343953926634992332820282019728792003956564819949 * (2 * c) := by rw [hd]; omega
    rw [← h3, e, Int.add_mul_emod_self_left]
  · intro hk
    rw [hd1]; omega
  · intro hk
    rw [hd1]
    by_cases k1 : k = 1
    · have := h4 k1; omega
    · have := h5 (by omega); omega
  · intro hk
    have := h5 (by omega)
    have hc0 : c = 0 := by omega
    subst hc0
    have e : nth L 0 + 38 * 0 = nth L 0 := by omega
    rw [e, nth_get (by rw [hL.1]; omega), List.set_getElem_self]
    exact hL

theorem St.start (n : F) (l : List Int) (hl : l.length = 16) (hb : ∀ x ∈ l, 0 ≤ x ∧ x < 1125899906842624) (hn : dnum l % 57896044618658097711785492504343953926634992332820282019728792003956564819949 = (n.val : Int)) : St 0 n l :=
  ⟨hl, fun x hx => by have := hb x hx; omega, hn, fun h => by omega, fun h => by omega, fun h => by omega⟩

theorem split_at15 (L : List Int) (h : Norm L) : ∃ r, dnum L = r + 1766847064778384329583297500742918515827483896875618958121606201292619776 * nth L 15 ∧ 0 ≤ r ∧ r < 1766847064778384329583297500742918515827483896875618958121606201292619776 := by
  have b := dnum_bound (L.take 15) (fun x hx => h.2 x (List.mem_of_mem_take hx))
  have hl : (L.take 15).length = 15 := by rw [List.length_take, h.1]; omega
  rw [hl] at b
  have e := dnum_take L 15 (by rw [h.1]; omega)
  rw [List.take_of_length_le (by rw [h.1]; omega)] at e
  exact ⟨dnum (L.take 15), by rw [e]; omega, b.1, by omega⟩

/-- The highest bit taken off, and counted 19 times. -/
theorem high_off {n : F} {L : List Int} (h : Norm L) (hn : dnum L % 57896044618658097711785492504343953926634992332820282019728792003956564819949 = (n.val : Int)) :
    ((L.set 15 (nth L 15 % 32768)).set 0 (nth L 0 + 19 * (nth L 15 / 32768))).length = 16 ∧ (∀ x ∈ (L.set 15 (nth L 15 % 32768)).set 0 (nth L 0 + 19 * (nth L 15 / 32768)), 0 ≤ x ∧ x < 2251799813685248) ∧
    dnum ((L.set 15 (nth L 15 % 32768)).set 0 (nth L 0 + 19 * (nth L 15 / 32768))) % 57896044618658097711785492504343953926634992332820282019728792003956564819949 = (n.val : Int) ∧
    0 ≤ dnum ((L.set 15 (nth L 15 % 32768)).set 0 (nth L 0 + 19 * (nth L 15 / 32768))) ∧
    dnum ((L.set 15 (nth L 15 % 32768)).set 0 (nth L 0 + 19 * (nth L 15 / 32768))) < 57896044618658097711785492504343953926634992332820282019728792003956564820000 := by
  have h0 := h.nth 0
  have h15 := h.nth 15
  have hl : (L.set 15 (nth L 15 % 32768)).length = 16 := by simp [h.1]
  have e0 : nth (L.set 15 (nth L 15 % 32768)) 0 = nth L 0 := by rw [nth_set _ _ _ _ (by rw [h.1]; omega), if_neg (by omega)]
  have d1 := dnum_set0 (L.set 15 (nth L 15 % 32768)) (nth L 0 + 19 * (nth L 15 / 32768)) (by rw [hl]; omega)
  rw [e0] at d1
  have d2 := dnum_set L 15 (nth L 15 % 32768) (by rw [h.1]; omega)
  obtain ⟨r, sp, r0, r1⟩ := split_at15 L h
  have d3 : dnum ((L.set 15 (nth L 15 % 32768)).set 0 (nth L 0 + 19 * (nth L 15 / 32768))) = dnum L - 57896044618658097711785492504343953926634992332820282019728792003956564819949 * (nth L 15 / 32768) := by
    rw [d1, d2]
    have e := Int.mul_ediv_add_emod (nth L 15) 32768
    omega
  refine ⟨by simp [h.1], ?_, ?_, ?_, ?_⟩
  · intro x hx
    rcases List.mem_or_eq_of_mem_set hx with h' | h'
    · rcases List.mem_or_eq_of_mem_set h' with h' | h'
      · have := h.2 x h'; omega
      · subst h'; omega
    · subst h'; omega
  · rw [d3, ← hn]
    have e : dnum L - 57896044618658097711785492504343953926634992332820282019728792003956564819949 * (nth L 15 / 32768) = dnum L + 57896044618658097711785492504343953926634992332820282019728792003956564819949 * (-(nth L 15 / 32768)) := by omega
    rw [e, Int.add_mul_emod_self_left]
  · rw [d3]; omega
  · rw [d3]; omega
end Go.Proofs.Ytciakfhjjnmeeaa
