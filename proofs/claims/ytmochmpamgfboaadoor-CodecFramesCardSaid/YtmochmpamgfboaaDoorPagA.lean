/- Numbers of pages: bits.Len, network.Pad, slots.Pages. Condition: numbers as they come up. -/
import Derived.Test.YtmochmpamgfboaaDoorCodB
import Derived.Test.YtmochmpamgfboaaDoorSl6
import Derived.Lib.Strings
import Derived.Lib.Slices
import Derived.Lib.Small
import Derived.Lib.Walk
import Derived.Lib.BitFns
namespace Go.Proofs.YtmochmpamgfboaaDoor
open Go.RowKit
set_option maxHeartbeats 4000000 in
set_option maxRecDepth 100000 in
/-- The length in bits (walked as the shelf's contract walks it). -/
theorem len64_any (x : Int) (w : World) (h0 : 0 ≤ x) (h1 : x ≤ 255) : Calls Tryd.prog 79 #[.int .u64 x] w fun e w' => e = .returned (.int .i64 (Lib.bitLen x.toNat)) ∧ w' = w := by
  go_enter Tryd.func79, Tryd.ntmps79
  go_wp2
  have hl := Lib.len8_of x h0 (by omega)
  have hb := Lib.bitLen_le8' x h0 (by omega)
  have e : wrap64 (wrap64 (Lib.len8 x)) = (Lib.bitLen x.toNat : Int) := by
    have w1 := IntWalk.wrap64_in (Lib.bitLen x.toNat : Int) (by omega)
    rw [hl, w1, w1]
  exact ⟨rfl, .int .i64 (wrap64 (wrap64 (Lib.len8 x))), by kernel_rfl, by rw [e], rfl⟩
theorem len_any (x : Int) (w : World) (h0 : 0 ≤ x) (h1 : x ≤ 255) : Calls Tryd.prog 72 #[.int .u64 x] w fun e w' => e = .returned (.int .i64 (Lib.bitLen x.toNat)) ∧ w' = w := by
  go_enter Tryd.func72, Tryd.ntmps72
  go_wp2_with (go_at_call 79; refine (len64_any x _ h0 h1).mono ?_; rintro e w' ⟨rfl, rfl⟩)
  go_ret
  exact ⟨rfl, rfl⟩
/-- The least power of two from n on; 0 of 0. -/
def padN (n : Nat) : Nat := if n = 0 then 0 else 2 ^ Lib.bitLen (n - 1)
set_option maxRecDepth 100000 in
theorem pad_any (n : Nat) (w : World) (h : n ≤ 256) : Calls Tryd.prog 63 #[.int .i64 n] w fun e w' => e = .returned (.int .i64 (padN n : Nat)) ∧ w' = w := by
  rcases Nat.eq_zero_or_pos n with h0 | h0
  · subst h0
    go_enter Tryd.func63, Tryd.ntmps63
    go_wp2
    go_ret
    exact ⟨rfl, rfl⟩
  · have hb := Lib.bitLen_le8' ((n : Int) - 1) (by omega) (by omega)
    have e1 : ((n : Int) - 1).toNat = n - 1 := by omega
    rw [e1] at hb
    have hp : padN n = 2 ^ Lib.bitLen (n - 1) := by rw [padN, if_neg (by omega)]
    go_enter Tryd.func63, Tryd.ntmps63
    go_wp2_with (go_at_call 72; refine (len_any ((n : Int) - 1) _ (by omega) (by omega)).mono ?_; rintro e w' ⟨rfl, rfl⟩)
    have hpow : 2 ^ Lib.bitLen (n - 1) ≤ 2 ^ 8 := Nat.pow_le_pow_right (by decide) hb
    have e2 : wrap64 (2 ^ Lib.bitLen (n - 1)) = ((padN n : Nat) : Int) := by
      rw [hp, Int.natCast_pow]
      have e3 : ((2 : Nat) : Int) ^ Lib.bitLen (n - 1) = ((2 ^ Lib.bitLen (n - 1) : Nat) : Int) := (Int.natCast_pow 2 _).symm
      refine IntWalk.wrap64_in _ ?_
      rw [show ((2 : Int)) = ((2 : Nat) : Int) from rfl, e3]
      generalize 2 ^ Lib.bitLen (n - 1) = y at hpow
      omega
    exact ⟨rfl, .int .i64 (wrap64 (2 ^ Lib.bitLen (n - 1))), by kernel_rfl, by rw [e2], rfl⟩
theorem ceil_exact (n per : Nat) (hp : 0 < per) (h : n % per = 0) : (n + per - 1) / per = n / per := by
  obtain ⟨q, rfl⟩ := Nat.dvd_of_mod_eq_zero h
  rw [Nat.mul_div_cancel_left q hp]
  exact Nat.div_eq_of_lt_le (by rw [Nat.mul_comm]; omega) (by rw [Nat.add_mul, Nat.mul_comm q]; omega)
theorem ceil_more (n per : Nat) (hp : 0 < per) (h : ¬ n % per = 0) : (n + per - 1) / per = n / per + 1 := by
  have e := Nat.div_add_mod n per
  have l := Nat.mod_lt n hp
  refine Nat.div_eq_of_lt_le ?_ ?_
  · rw [Nat.add_mul, Nat.mul_comm (n / per)]; omega
  · rw [Nat.add_mul, Nat.add_mul, Nat.mul_comm (n / per)]; omega
set_option maxRecDepth 100000 in
theorem pages0_any (n per : Nat) (hp : 0 < per) (h1 : n ≤ 1000000) (w : World) : Calls Tryd.prog 71 #[.int .i64 n, .int .i64 per] w fun e w' => e = .returned (.int .i64 ((n + per - 1) / per : Nat)) ∧ w' = w := by
  have hz : ¬ ((per : Int) = 0) := by omega
  have hq : (n : Int) / (per : Int) = ((n / per : Nat) : Int) := (Int.natCast_ediv n per).symm
  have hqb : n / per ≤ n := Nat.div_le_self n per
  have hw : wrap64 ((n : Int) / (per : Int)) = ((n / per : Nat) : Int) := by rw [hq]; exact IntWalk.wrap64_in _ (by generalize n / per = y at hqb ⊢; omega)
  have hm : (n : Int) % (per : Int) = ((n % per : Nat) : Int) := (Int.natCast_emod n per).symm
  by_cases h : n % per = 0
  · have hz2 : (n : Int) % (per : Int) = 0 := by rw [hm, h]; rfl
    have HC := Lib.hid (ceil_exact n per hp h)
    have HW := Lib.hid hw
    clear hq hw hm
    go_enter Tryd.func71, Tryd.ntmps71
    go_wp2
    go_ret
    exact ⟨by rw [HC.out, ← HW.out]; rfl, rfl⟩
  · have hz2 : ¬ ((n : Int) % (per : Int) = 0) := by rw [hm]; omega
    have HC := Lib.hid (ceil_more n per hp h)
    have HW := Lib.hid hw
    clear hq hw hm
    go_enter Tryd.func71, Tryd.ntmps71
    go_wp2
    go_ret
    have e : wrap64 (wrap64 ((n : Int) / (per : Int)) + 1) = ((n / per + 1 : Nat) : Int) := by rw [HW.out, IntWalk.wrap64_in _ (by generalize n / per = y at hqb ⊢; omega)]; rfl
    exact ⟨by rw [HC.out, ← e]; rfl, rfl⟩
/-- So many rows, so many a page. -/
def ceil (n per : Nat) : Nat := (n + per - 1) / per
theorem ceil_le (n per : Nat) (hp : 0 < per) : ceil n per ≤ n := by
  unfold ceil
  by_cases h : n % per = 0
  · rw [ceil_exact n per hp h]; exact Nat.div_le_self _ _
  · rw [ceil_more n per hp h]
    have h1 : 0 < n := by
      rcases Nat.eq_zero_or_pos n with h0 | h0
      · subst h0; simp at h
      · exact h0
    rcases Nat.lt_or_ge 1 per with h2 | h2
    · exact Nat.div_lt_self h1 h2
    · obtain rfl : per = 1 := by omega
      simp [Nat.mod_one] at h
set_option maxRecDepth 100000 in
theorem slotsPages_ev {n size text per q : Nat} (hs : 1 ≤ size) (ht : size ≤ text) (hn : n ≤ 512) (htx : text ≤ 4096) (h1 : text / size = per) (h2 : ceil n per = q) (w : World) : Calls Tryd.prog 62 #[.int .i64 n, .int .i64 size, .int .i64 text] w fun e w' => e = .returned (.tuple #[.int .i64 q, .int .i64 0]) ∧ w' = w := by
  have hper : 0 < per := h1 ▸ Nat.div_pos ht hs
  have hcl := ceil_le n per hper
  rw [h2] at hcl
  have hz : ¬ ((size : Int) = 0) := by omega
  have hq : (text : Int) / (size : Int) = (per : Int) := by rw [← h1]; exact (Int.natCast_ediv text size).symm
  have hqb : per ≤ text := h1 ▸ Nat.div_le_self _ _
  have hw : wrap64 ((text : Int) / (size : Int)) = (per : Int) := by rw [hq]; exact IntWalk.wrap64_in _ (by omega)
  have HP := Lib.hid (show ∀ w : World, Calls Tryd.prog 71 #[.int .i64 n, .int .i64 per] w fun e w' => e = .returned (.int .i64 (q : Nat)) ∧ w' = w from fun w => h2 ▸ pages0_any n per hper (by omega) w)
  clear hq h1 h2
  go_enter Tryd.func62, Tryd.ntmps62
  go_wp2_with (go_at_call 71; rw [hw]; refine (HP.out _).mono ?_; rintro e w' ⟨rfl, rfl⟩)
  · exact ⟨rfl, .tuple #[.int .i64 q, .int .i64 0], by kernel_rfl, rfl, rfl⟩
end Go.Proofs.YtmochmpamgfboaaDoor
