/- The reference's numbers of pages: pages, trystref16.Pad. Condition: numbers as they come up. -/
import Derived.Test.YtmochmpamgfboaaDoorRefS
namespace Go.Proofs.YtmochmpamgfboaaDoor
open Go.RowKit
set_option maxRecDepth 100000 in
theorem pagesR0_ev {n size text per q : Nat} (hs : 1 ≤ size) (ht : size ≤ text) (hn : n ≤ 512) (htx : text ≤ 4096) (h1 : text / size = per) (h2 : ceil n per = q) (w : World) : Calls Tryd.prog 64 #[.int .i64 n, .int .i64 size, .int .i64 text] w (Gives (· = .int .i64 q) w) := by
  have hper : 0 < per := h1 ▸ Nat.div_pos ht hs
  have hcl := ceil_le n per hper
  rw [h2] at hcl
  have hz : ¬ ((size : Int) = 0) := by omega
  have hz2 : ¬ ((per : Int) = 0) := by omega
  have hq : (text : Int) / (size : Int) = (per : Int) := by rw [← h1]; exact (Int.natCast_ediv text size).symm
  have hqb : per ≤ text := h1 ▸ Nat.div_le_self _ _
  have hw : wrap64 ((text : Int) / (size : Int)) = (per : Int) := by rw [hq]; exact IntWalk.wrap64_in _ (by omega)
  have hq2 : ((n : Int) + per - 1) / (per : Int) = (q : Int) := by
    rw [← h2, ceil, Int.natCast_ediv, show ((n + per - 1 : Nat) : Int) = (n : Int) + per - 1 by omega]
  have hw2 : wrap64 (((n : Int) + per - 1) / (per : Int)) = (q : Int) := by rw [hq2]; exact IntWalk.wrap64_in _ (by omega)
  have HQ2 := Lib.hid hq2
  clear hq h1 h2 hq2
  go_enter Tryd.func64, Tryd.ntmps64
  go_wp2
  exact ⟨rfl, .int .i64 (((n : Int) + per - 1) / (per : Int)), by kernel_rfl, _, rfl, by rw [HQ2.out], Below.refl _ _⟩
theorem pad_pow : ∀ (n : Fin 257) (j : Fin 10), 1 ≤ n.val → n.val ≤ 2 ^ j.val → (j.val = 0 ∨ 2 ^ (j.val - 1) < n.val) → padN n.val = 2 ^ j.val := by decide +kernel
set_option maxRecDepth 100000 in
theorem padR_ev {n q : Nat} (h : n ≤ 256) (hq : padN n = q) (w : World) : Calls Tryd.prog 65 #[.int .i64 n] w (Gives (· = .int .i64 q) w) := by
  rcases Nat.eq_zero_or_pos n with h0 | h0
  · subst h0
    obtain rfl : 0 = q := hq
    go_enter Tryd.func65, Tryd.ntmps65
    go_wp2
    exact ⟨rfl, .int .i64 0, by kernel_rfl, _, rfl, rfl, Below.refl _ _⟩
  · have HQ := Lib.hid hq
    clear hq
    go_enter Tryd.func65, Tryd.ntmps65
    go_wp2
    go_loopw [3] (fun v wr => ∃ (j s : Nat), j ≤ 8 ∧ s = 2 ^ j ∧ (j = 0 ∨ 2 ^ (j - 1) < n) ∧ v = .int .i64 s ∧ Below w.heap.size w wr) (fun v _ => 256 - (intOf v).toNat)
    case atStart => exact ⟨0, 1, by omega, rfl, .inl rfl, rfl, Below.refl _ _⟩
    case round =>
      obtain ⟨j, s, hj, hs, hjn, rfl, hb⟩ := hrel
      have HB := Lib.hid hb
      have HS := Lib.hid hs
      have HJ := Lib.hid hjn
      have hpos : 1 ≤ s := hs ▸ Nat.pos_of_ne_zero (by simp)
      have hle : s ≤ 256 := hs ▸ Nat.pow_le_pow_right (n := 2) (by decide) hj
      clear hb hs hjn
      by_cases hlt : s < n
      · have HJ8 := Lib.hid (show j + 1 ≤ 8 by
          rcases Nat.lt_or_ge j 8 with h8 | h8
          · omega
          · have : j = 8 := by omega
            have h9 := HS.out
            rw [this] at h9
            omega)
        go_wp2
        go_roundw
        case rel => exact ⟨j + 1, 2 * s, HJ8.out, by rw [HS.out, Nat.pow_succ]; omega, .inr (by rw [Nat.add_sub_cancel, ← HS.out]; exact hlt), by go_num, HB.out⟩
        case measure => simp [intOf]; omega
      · have HF := Lib.hid (show q = s by rw [← HQ.out, HS.out]; exact pad_pow ⟨n, by omega⟩ ⟨j, by omega⟩ h0 (by rw [← HS.out]; show n ≤ s; omega) HJ.out)
        go_wp2
        exact ⟨rfl, .int .i64 s, by kernel_rfl, _, rfl, by rw [HF.out], HB.out⟩
end Go.Proofs.YtmochmpamgfboaaDoor
