/- Walk of ladder.Clamp: a private key clamped, as a number. Nothing that was there is turned. -/
import Derived.Test.YtciakfhjjnmeeaaMem
import Derived.Test.YtciakfhjjnmeeaaMeet
namespace Go.Proofs.Ytciakfhjjnmeeaa
open Go.RowKit Nt

/-- A key clamped. -/
def clampL (L : List Int) : List Int := (L.set 0 (nth L 0 / 8 * 8)).set 31 (nth L 31 % 64 + 64)
/-- A clamped key's number. -/
def cl (L : List Int) : Nat := (num (clampL L)).toNat

theorem and248 (x : Int) (h0 : 0 ≤ x) (h1 : x < 256) : bits .and .u8 x 248 = x / 8 * 8 := by
  obtain ⟨n, rfl⟩ := Int.eq_ofNat_of_zero_le h0
  have h : ∀ n : Fin 256, bits .and .u8 (n.val : Int) 248 = (n.val : Int) / 8 * 8 := by decide +kernel
  exact h ⟨n, by omega⟩
theorem and127_or64 (x : Int) (h0 : 0 ≤ x) (h1 : x < 256) : bits .or .u8 (bits .and .u8 x 127) 64 = x % 64 + 64 := by
  obtain ⟨n, rfl⟩ := Int.eq_ofNat_of_zero_le h0
  have h : ∀ n : Fin 256, bits .or .u8 (bits .and .u8 (n.val : Int) 127) 64 = (n.val : Int) % 64 + 64 := by decide +kernel
  exact h ⟨n, by omega⟩

theorem clampL_len (L : List Int) : (clampL L).length = L.length := by simp [clampL]
theorem clampL_byt {L : List Int} (hb : Byt L) : Byt (clampL L) := by
  have h0 := hb.nth 0
  have h31 := hb.nth 31
  intro x hx
  rcases List.mem_or_eq_of_mem_set hx with h | rfl
  · rcases List.mem_or_eq_of_mem_set h with h | rfl
    · exact hb x h
    · omega
  · omega
theorem clampL_eq {L : List Int} (hl : L.length = 32) (hb : Byt L) : clampL L = bytesN (cl L) := (bytesN_num _ (by rw [clampL_len, hl]) (clampL_byt hb)).1
theorem num_set0 (L : List Int) (hl : L.length = 32) : num L = nth L 0 + 256 * num (L.drop 1) := by
  have := num_drop L 0 (by omega)
  simpa using this
theorem cl_val {L : List Int} (hl : L.length = 32) (hb : Byt L) : ∃ r : Nat, (cl L : Nat) = 8 * r + 2 ^ 248 * ((nth L 31).toNat % 64 + 64) ∧ 8 * r < 2 ^ 248 := by
  have hcb := clampL_byt hb
  have hcl : (clampL L).length = 32 := by rw [clampL_len, hl]
  have h31 := hb.nth 31
  have e1 : (clampL L).drop 31 = [nth L 31 % 64 + 64] := by
    rw [List.drop_eq_getElem_cons (by omega), List.drop_of_length_le (by omega)]
    simp [clampL]
  have e2 : clampL L = (clampL L).take 31 ++ (clampL L).drop 31 := (List.take_append_drop _ _).symm
  have hn := num_bound _ hcb
  have e3 : num (clampL L) = num ((clampL L).take 31) + 256 ^ 31 * (nth L 31 % 64 + 64) := by
    conv => lhs; rw [e2, num_append, e1]
    rw [List.length_take, hcl]
    simp [num]
  have hb2 := num_bound _ (hcb.take 31)
  rw [List.length_take, hcl] at hb2
  have e4 : num ((clampL L).take 31) = nth L 0 / 8 * 8 + 256 * num (((clampL L).take 31).drop 1) := by
    have h := num_drop ((clampL L).take 31) 0 (by rw [List.length_take, hcl]; omega)
    rw [List.drop_zero] at h
    rw [h]
    have : nth ((clampL L).take 31) 0 = nth L 0 / 8 * 8 := by
      rw [nth_get (by rw [List.length_take, hcl]; omega)]
      simp [clampL]
    rw [this]
  have p1 : (256 : Int) ^ 31 = 2 ^ 248 := by decide
  have p2 : (256 : Int) ^ (min 31 32) = 2 ^ 248 := by decide
  rw [p2] at hb2
  rw [p1] at e3
  have h0 := hb.nth 0
  generalize num (((clampL L).take 31).drop 1) = q at e4
  generalize num ((clampL L).take 31) = p at *
  refine ⟨(p / 8).toNat, ?_, ?_⟩
  · rw [cl, e3]
    omega
  · omega
theorem cl_lt {L : List Int} (hl : L.length = 32) (hb : Byt L) : cl L < 2 ^ 255 := by
  obtain ⟨r, h1, h2⟩ := cl_val hl hb; omega
theorem cl_pos {L : List Int} (hl : L.length = 32) (hb : Byt L) : 0 < cl L := by
  obtain ⟨r, h1, h2⟩ := cl_val hl hb; omega
theorem cl_eight {L : List Int} (hl : L.length = 32) (hb : Byt L) : cl L % 8 = 0 := by
  obtain ⟨r, h1, h2⟩ := cl_val hl hb; omega

set_option maxHeartbeats 1000000 in
set_option maxRecDepth 100000 in
theorem clamp_any (L : List Int) (w : World) (hl : L.length = 32) (hb : Byt L) : Calls Try.prog 48 #[.agg (vals L)] w (Gives (· = .agg (vals (clampL L))) w) := by
  have hcl := Lib.hid ((clampL_len L).trans hl)
  have b0 := hb.nth 0
  have b31 := hb.nth 31
  have a0 := and248 (nth L 0) b0.1 b0.2
  have a31 := and127_or64 (nth L 31) b31.1 b31.2
  have v0 : (vals L)[0]? = some (.int .u8 (nth L 0)) := vals_get (by omega)
  have s0 : (vals L).setIfInBounds 0 (.int .u8 (nth L 0 / 8 * 8)) = vals (L.set 0 (nth L 0 / 8 * 8)) := vals_set _ _ _
  have v31 : (vals (L.set 0 (nth L 0 / 8 * 8)))[31]? = some (.int .u8 (nth L 31)) := by
    rw [vals_get (by rw [List.length_set]; omega)]
    simp [nth]
  have s31 : (vals (L.set 0 (nth L 0 / 8 * 8))).setIfInBounds 31 (.int .u8 (nth L 31 % 64 + 64)) = vals (clampL L) := vals_set _ _ _
  clear hl hb
  generalize L.set 0 (nth L 0 / 8 * 8) = L1 at *
  generalize nth L 0 = x0 at *
  generalize nth L 31 = x31 at *
  generalize clampL L = L2 at *
  go_enter Try.func48, Try.ntmps48
  go_wp2_with (first | (refine ld_row rfl 68 (.tmp 1) rfl _ (by rfl) _ _ (new2_0 ..) 32 tKey (by rw [vals_size, hcl.out]) ?_) | (refine st_row rfl 68 (.tmp 2) _ rfl _ _ (by rfl) (by rfl) _ _ (new2_1 ..) 32 tKey (by rw [vals_size, hcl.out]) (by rfl) (vals_one _) ?_))
  refine ret_row rfl _ _ _ rfl (row_put (new2_1 ..)) 32 tKey (by rw [vals_size, hcl.out]) rfl ?_
  exact ⟨_, rfl, rfl, below_setRow (by go_grown) (by omega) _⟩
end Go.Proofs.Ytciakfhjjnmeeaa
