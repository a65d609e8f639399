/- Plain arithmetic: the bits of the least limbs are the bits of the number. No condition. -/
import Derived.Test.YtemkpihfenokmaaDoorElem
namespace Go.Proofs.YtemkpihfenokmaaDoor
open Nt

theorem vals_set (l : List Int) (i : Nat) (x : Int) : (vals l).setIfInBounds i (.int .u8 x) = vals (l.set i x) := by
  simp [vals, List.map_set]

/-- The values of whole numbers of one kind. -/
def valsK (k : IntKind) (l : List Int) : Array Value := (l.map (Value.int k)).toArray
theorem valsK_get {k : IntKind} {l : List Int} {j : Nat} (h : j < l.length) : (valsK k l)[j]? = some (.int k (nth l j)) := by
  rw [nth_get h]; simp [valsK]
theorem valsK_size (k : IntKind) (l : List Int) : (valsK k l).size = l.length := by simp [valsK]
theorem valsK_set (k : IntKind) (l : List Int) (i : Nat) (x : Int) : (valsK k l).setIfInBounds i (.int k x) = valsK k (l.set i x) := by
  simp [valsK, List.map_set]
theorem valsK_one (k : IntKind) (l : List Int) : (valsK k l).all (·.oneCell') = true := by simp [valsK, Value.oneCell']
theorem vals_one (l : List Int) : (vals l).all (·.oneCell') = true := by simp [vals, Value.oneCell']

theorem can_nth {z0 z1 z2 z3 z4 : Int} {n : F} (h : Can z0 z1 z2 z3 z4 n) (j : Nat) (hj : j < 5) : nth [z0, z1, z2, z3, z4] j = ((n.val / 2 ^ (51 * j) % 2 ^ 51 : Nat) : Int) := by
  obtain ⟨a0, a1, a2, a3, a4, hs⟩ := h
  rw [Int.natCast_emod, Int.natCast_ediv, ← hs]
  have : j = 0 ∨ j = 1 ∨ j = 2 ∨ j = 3 ∨ j = 4 := by omega
  rcases this with rfl | rfl | rfl | rfl | rfl
  · show z0 = _ / ((1 : Nat) : Int) % ((2251799813685248 : Nat) : Int); omega
  · show z1 = _ / ((2251799813685248 : Nat) : Int) % ((2251799813685248 : Nat) : Int); omega
  · show z2 = _ / ((5070602400912917605986812821504 : Nat) : Int) % ((2251799813685248 : Nat) : Int); omega
  · show z3 = _ / ((11417981541647679048466287755595961091061972992 : Nat) : Int) % ((2251799813685248 : Nat) : Int); omega
  · show z4 = _ / ((25711008708143844408671393477458601640355247900524685364822016 : Nat) : Int) % ((2251799813685248 : Nat) : Int); omega

theorem bit_of (V k : Nat) : V / 2 ^ (51 * (k / 51)) % 2 ^ 51 / 2 ^ (k % 51) % 2 = V / 2 ^ k % 2 := by
  have key : ∀ x y : Nat, x.testBit 0 = y.testBit 0 → x % 2 = y % 2 := by
    intro x y h
    simp only [Nat.testBit_zero] at h
    have := decide_eq_decide.1 h
    omega
  apply key
  rw [Nat.testBit_div_two_pow, Nat.testBit_mod_two_pow, Nat.testBit_div_two_pow, Nat.testBit_div_two_pow]
  have e : k % 51 + 51 * (k / 51) = k := by omega
  have h : k % 51 < 51 := by omega
  simp [e, h]

theorem and_one (x : Int) (h0 : 0 ≤ x) (h1 : x < 18446744073709551616) : bits .and .u64 x 1 = x % 2 := by go_bits2

theorem bit_byte {z0 z1 z2 z3 z4 : Int} {n : F} (h : Can z0 z1 z2 z3 z4 n) (k : Nat) (hk : k < 255) :
    bits .or .u8 (byteOf (n.val % 2 ^ k) (k / 8) : Nat) (bits .and .u64 (nth [z0, z1, z2, z3, z4] (k / 51) / 2 ^ (k % 51)) 1 % 256 * 2 ^ (k % 8) % 256)
      = ((byteOf (n.val % 2 ^ k) (k / 8) ||| (n.val / 2 ^ k % 2) * 2 ^ (k % 8) : Nat) : Int) := by
  rw [can_nth h _ (by omega)]
  have hp : ((n.val / 2 ^ (51 * (k / 51)) % 2 ^ 51 : Nat) : Int) / 2 ^ (k % 51) = ((n.val / 2 ^ (51 * (k / 51)) % 2 ^ 51 / 2 ^ (k % 51) : Nat) : Int) := by
    rw [Int.natCast_ediv, Int.natCast_pow]; rfl
  rw [hp]
  have hb : n.val / 2 ^ (51 * (k / 51)) % 2 ^ 51 / 2 ^ (k % 51) < 2 ^ 51 := Nat.lt_of_le_of_lt (Nat.div_le_self _ _) (Nat.mod_lt _ (by decide))
  have hv := bit_of n.val k
  generalize hX : n.val / 2 ^ (51 * (k / 51)) % 2 ^ 51 / 2 ^ (k % 51) = X at hb hv ⊢
  rw [and_one _ (by omega) (by omega)]
  have hq : ((X : Nat) : Int) % 2 = ((n.val / 2 ^ k % 2 : Nat) : Int) := by
    rw [← hv]; rfl
  rw [hq]
  have h2 : 2 ^ (k % 8) ≤ 128 := by
    have := Nat.pow_le_pow_right (show 0 < 2 by decide) (show k % 8 ≤ 7 by omega)
    exact this
  generalize hb2 : n.val / 2 ^ k % 2 = b
  have hb3 : b ≤ 1 := by omega
  have hw : ((b : Nat) : Int) % 256 = (b : Int) := by omega
  have hm : b * 2 ^ (k % 8) ≤ 128 := by
    have : b = 0 ∨ b = 1 := by omega
    rcases this with rfl | rfl <;> omega
  have hx : ((b : Nat) : Int) * 2 ^ (k % 8) = ((b * 2 ^ (k % 8) : Nat) : Int) := by
    rw [Int.natCast_mul, Int.natCast_pow]; rfl
  rw [hw, hx, Int.emod_eq_of_lt (by omega) (by omega)]
  have hbo : byteOf (n.val % 2 ^ k) (k / 8) < 256 := Nat.mod_lt _ (by decide)
  exact u8_or_nat _ _ hbo (by omega)

theorem mod_all (n : F) : n.val % 2 ^ 255 = n.val := Nat.mod_eq_of_lt (Nat.lt_trans n.isLt (by decide))

end Go.Proofs.YtemkpihfenokmaaDoor
