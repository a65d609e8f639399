/- trystref20.PutConfig. No condition. -/
import Derived.Test.YtmochmpamgfboabDoorRowB
namespace Go.Proofs.YtmochmpamgfboabDoor
open Go.RowKit
theorem le4_32 (x : Int) : le4 (x % 4294967296) = le4 x := by
  simp only [le4, List.cons.injEq, and_true]
  refine ⟨?_, ?_, ?_, ?_⟩ <;> omega
theorem le4_64 (x : Int) : le4 (x % 18446744073709551616) = le4 x := by
  simp only [le4, List.cons.injEq, and_true]
  refine ⟨?_, ?_, ?_, ?_⟩ <;> omega
theorem le4_u64 (x : Int) : le4 (IntKind.u64.wrap x) = le4 x := by
  rw [show IntKind.u64.wrap x = x % 18446744073709551616 by simp [IntKind.wrap, IntKind.bits, IntKind.signed]]
  exact le4_64 x
theorem flat_append (vs : List Row1) (r : Row1) : flat (vs ++ [r]) = flat vs ++ r.2.2 := by simp [flat]
/-- The numbers' bytes, one behind the other. -/
def nums (xs : List Int) : List Int := (xs.map le4).flatten
theorem nums_take (xs : List Int) (k : Nat) (h : k < xs.length) : nums (xs.take (k + 1)) = nums (xs.take k) ++ le4 (nth xs k) := by
  rw [nums, take_nth xs k h]
  simp [nums]
theorem nums_len : ∀ (xs : List Int), (nums xs).length = 4 * xs.length
  | [] => rfl
  | x :: xs => by
    have := nums_len xs
    simp only [nums, List.map_cons, List.flatten_cons, List.length_append, le4_len, List.length_cons] at this ⊢
    omega
theorem confL_nums (n0 n1 n2 n3 n4 n5 : Int) : confL n0 n1 n2 n3 n4 n5 = nums [n0, n1, n2, n3, n4, n5] := by
  simp only [confL, le4_32]
  rfl
end Go.Proofs.YtmochmpamgfboabDoor
