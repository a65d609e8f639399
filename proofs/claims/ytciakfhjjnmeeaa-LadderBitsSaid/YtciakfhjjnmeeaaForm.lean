/- Rows of bytes and their numbers: the highest bit, numbers beyond the prime. Plain laws. -/
import Derived.Test.YtciakfhjjnmeeaaOpsG
import Derived.Test.YtciakfhjjnmeeaaFieldV
namespace Go.Proofs.Ytciakfhjjnmeeaa
open Go.RowKit Nt

theorem xor128 (x : Int) (h0 : 0 ≤ x) (h1 : x < 256) : bits .xor .u8 x 128 = if x < 128 then x + 128 else x - 128 := by
  obtain ⟨n, rfl⟩ := Int.eq_ofNat_of_zero_le h0
  have : ∀ n : Fin 256, bits .xor .u8 ((n.val : Nat) : Int) 128 = if ((n.val : Nat) : Int) < 128 then ((n.val : Nat) : Int) + 128 else ((n.val : Nat) : Int) - 128 := by decide +kernel
  exact this ⟨n, by omega⟩

theorem val_numF (l : List Int) (hb : Byt l) : ((numF l).val : Int) = num l % 57896044618658097711785492504343953926634992332820282019728792003956564819968 % 57896044618658097711785492504343953926634992332820282019728792003956564819949 := by
  have h := num_bound l hb
  show (((num l % 57896044618658097711785492504343953926634992332820282019728792003956564819968).toNat % P : Nat) : Int) = _
  rw [Int.natCast_emod, PI_eq, Int.toNat_of_nonneg (by omega)]

theorem numF_bytes (n : F) (V : Nat) (h : n.val = V) : numF (bytesN V) = n := by
  subst h
  apply Fin.ext
  have h1 := val_numF (bytesN n.val) (bytesN_byt _)
  have h2 : n.val < P := n.isLt
  have h3 : (P : Int) = 57896044618658097711785492504343953926634992332820282019728792003956564819949 := by decide
  rw [num_bytesN _ (Nat.lt_trans n.isLt (by decide))] at h1
  omega

theorem num_top (l : List Int) (hl : l.length = 32) (v : Int) : num (l.set 31 v) = num l + 256 ^ 31 * (v - nth l 31) := by
  have e1 : l = l.take 31 ++ [nth l 31] := by
    have := drop_nth l 31 (by omega)
    rw [List.drop_of_length_le (show l.length ≤ 31 + 1 by omega)] at this
    rw [← this, List.take_append_drop]
  have hlt : (l.take 31).length = 31 := by rw [List.length_take]; omega
  have e2 : l.set 31 v = l.take 31 ++ [v] := by
    conv => lhs; rw [e1]
    rw [List.set_append_right _ _ (by omega), hlt]
    rfl
  have e3 : num l = num (l.take 31) + 256 ^ 31 * nth l 31 := by
    conv => lhs; rw [e1]
    rw [num_append, hlt]; simp [num]
  rw [e2, num_append, hlt, e3]
  simp only [num]
  generalize (256 : Int) ^ 31 = c
  grind

/-- The highest bit does not count. -/
theorem high_same (l : List Int) (hl : l.length = 32) (hb : Byt l) : numF (l.set 31 (bits .xor .u8 (nth l 31) 128)) = numF l ∧ Byt (l.set 31 (bits .xor .u8 (nth l 31) 128)) := by
  have h31 := hb.nth 31
  have hx := xor128 _ h31.1 h31.2
  rw [hx]
  have hbyt : Byt (l.set 31 (if nth l 31 < 128 then nth l 31 + 128 else nth l 31 - 128)) := by
    intro x hx'
    rcases List.mem_or_eq_of_mem_set hx' with h | h
    · exact hb x h
    · subst h; split <;> omega
  have hv : (if nth l 31 < 128 then nth l 31 + 128 else nth l 31 - 128) = nth l 31 + 128 ∨ (if nth l 31 < 128 then nth l 31 + 128 else nth l 31 - 128) = nth l 31 - 128 := by split <;> simp
  generalize (if nth l 31 < 128 then nth l 31 + 128 else nth l 31 - 128) = v at *
  refine ⟨?_, hbyt⟩
  apply Fin.ext
  have h1 := val_numF l hb
  have h2 := val_numF _ hbyt
  rw [num_top l hl] at h2
  have e : (256 : Int) ^ 31 = 452312848583266388373324160190187140051835877600158453279131187530910662656 := by decide
  rw [e] at h2
  generalize num l = n at *
  rcases hv with hv | hv <;> rw [hv] at h2 ⊢ <;> rw [hv] at hbyt <;> omega

theorem c_num : ∀ k : Fin 19, numF (f32.set 0 (255 - (k.val : Int))) = Fin.ofNat P (18 - k.val) := by decide +kernel
theorem c_num19 : numF (f32.set 0 236) = 0 - (1 : F) := by decide +kernel
theorem c_byt (k : Nat) (h : k < 256) : Byt (f32.set 0 (255 - (k : Int))) := by
  intro x hx
  rcases List.mem_or_eq_of_mem_set hx with h' | h'
  · have : ∀ y ∈ f32, 0 ≤ y ∧ y < 256 := by decide
    exact this x h'
  · subst h'; omega

theorem equal_el_yes {x y : Value} {n m : F} (hx : IsEl n x) (hy : IsEl m y) (h : n = m) (w : World) : Calls Try.prog 25 #[x, y] w (Gives (· = .int .u64 18446744073709551615) w) := by
  have := equal_el hx hy w
  rw [decide_eq_true h] at this; exact this
theorem equal_el_no {x y : Value} {n m : F} (hx : IsEl n x) (hy : IsEl m y) (h : ¬ n = m) (w : World) : Calls Try.prog 25 #[x, y] w (Gives (· = .int .u64 0) w) := by
  have := equal_el hx hy w
  rw [decide_eq_false h] at this; exact this
theorem of_ev (l : List Int) (hl : l.length = 32) (hb : Byt l) {n : F} (h : numF l = n) (w : World) : Calls Try.prog 19 #[.agg (vals l)] w (Gives (IsEl n) w) := by
  subst h; exact of_el l hl hb w
theorem bytes_same {n m : F} {V W : Nat} (hV : n.val = V) (hW : m.val = W) : decide (bytesN V = bytesN W) = decide (n = m) := by
  refine decide_eq_decide.2 ⟨fun h => ?_, fun h => by subst hV; subst hW; rw [h]⟩
  rw [← numF_bytes n V hV, ← numF_bytes m W hW, h]
theorem eql_by_as {p q : Operand} (xs ys : List Int) (hx : xs.length = 32) (hy : ys.length = 32) (b : Bool) (h : decide (xs = ys) = b) (w : World) :
    (do eqGuard .eql 22 p q (.agg (vals xs)) (.agg (vals ys)); binOp .eql 22 (.agg (vals xs)) (.agg (vals ys)) : Sem Value).run Try.prog w = .ok (.bool b) w := by
  subst h; exact eql_by xs ys hx hy w
end Go.Proofs.Ytciakfhjjnmeeaa
