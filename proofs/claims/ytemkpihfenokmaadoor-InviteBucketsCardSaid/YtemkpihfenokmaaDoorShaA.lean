/- Words of 32 bits turned: math/bits.RotateLeft32, trystref03.rot. No condition. -/
import Derived.Test.YtemkpihfenokmaaDoorBuf
import Derived.OpenShut
import Derived.BigQuiet
namespace Go.Proofs.YtemkpihfenokmaaDoor
open Go.RowKit
/-- A word turned to the right by a number of bits: m is 2 to the power 32 less it, d 2 to the power of it. -/
def turn (m d x : Int) : Int := bits .or .u32 (x * m % 4294967296) (x / d)
theorem or_turn (x y : Int) : bits .or .u32 x y = bits .or .u32 y x := by simp only [bits, BitVec.or_comm]
theorem below_drn {B : Nat} {a w : World} (h : Below B a w) (n : Nat) : Below B a (w.drewN n) := ⟨h.os, h.tape, h.output, h.size, h.block⟩
theorem below_drewN (w : World) (n : Nat) : Below w.heap.size w (w.drewN n) := ⟨rfl, rfl, rfl, Nat.le_refl _, fun _ _ => rfl⟩
theorem rotL_2 (x : Int) (w : World) : Calls Tryd.prog 27 #[.int .u32 x, .int .i64 (-2)] w fun e w' => e = .returned (.int .u32 (turn 1073741824 4 x)) ∧ w' = w := by
  have hs : bits .and .u64 (IntKind.u64.wrap (-2)) 31 = 30 := by kernel_rfl
  go_enter Tryd.func27, Tryd.ntmps27
  go_wp2
  exact ⟨rfl, .int .u32 (turn 1073741824 4 x), by kernel_rfl, rfl, rfl⟩
theorem rotR_2 (x : Int) (w : World) : Calls Tryd.prog 25 #[.int .u32 x, .int .i64 2] w fun e w' => e = .returned (.int .u32 (turn 1073741824 4 x)) ∧ Below w.heap.size w w' := by
  rw [turn, or_turn]
  go_enter Tryd.func25, Tryd.ntmps25
  go_wp2_with fail
  go_quiet (fail)
  go_wp2_with fail
  exact ⟨rfl, .int .u32 (bits .or .u32 (x / 4) (x * 1073741824 % 4294967296)), by kernel_rfl, rfl, below_drewN w nq⟩
theorem rotL_6 (x : Int) (w : World) : Calls Tryd.prog 27 #[.int .u32 x, .int .i64 (-6)] w fun e w' => e = .returned (.int .u32 (turn 67108864 64 x)) ∧ w' = w := by
  have hs : bits .and .u64 (IntKind.u64.wrap (-6)) 31 = 26 := by kernel_rfl
  go_enter Tryd.func27, Tryd.ntmps27
  go_wp2
  exact ⟨rfl, .int .u32 (turn 67108864 64 x), by kernel_rfl, rfl, rfl⟩
theorem rotR_6 (x : Int) (w : World) : Calls Tryd.prog 25 #[.int .u32 x, .int .i64 6] w fun e w' => e = .returned (.int .u32 (turn 67108864 64 x)) ∧ Below w.heap.size w w' := by
  rw [turn, or_turn]
  go_enter Tryd.func25, Tryd.ntmps25
  go_wp2_with fail
  go_quiet (fail)
  go_wp2_with fail
  exact ⟨rfl, .int .u32 (bits .or .u32 (x / 64) (x * 67108864 % 4294967296)), by kernel_rfl, rfl, below_drewN w nq⟩
theorem rotL_7 (x : Int) (w : World) : Calls Tryd.prog 27 #[.int .u32 x, .int .i64 (-7)] w fun e w' => e = .returned (.int .u32 (turn 33554432 128 x)) ∧ w' = w := by
  have hs : bits .and .u64 (IntKind.u64.wrap (-7)) 31 = 25 := by kernel_rfl
  go_enter Tryd.func27, Tryd.ntmps27
  go_wp2
  exact ⟨rfl, .int .u32 (turn 33554432 128 x), by kernel_rfl, rfl, rfl⟩
theorem rotR_7 (x : Int) (w : World) : Calls Tryd.prog 25 #[.int .u32 x, .int .i64 7] w fun e w' => e = .returned (.int .u32 (turn 33554432 128 x)) ∧ Below w.heap.size w w' := by
  rw [turn, or_turn]
  go_enter Tryd.func25, Tryd.ntmps25
  go_wp2_with fail
  go_quiet (fail)
  go_wp2_with fail
  exact ⟨rfl, .int .u32 (bits .or .u32 (x / 128) (x * 33554432 % 4294967296)), by kernel_rfl, rfl, below_drewN w nq⟩
theorem rotL_11 (x : Int) (w : World) : Calls Tryd.prog 27 #[.int .u32 x, .int .i64 (-11)] w fun e w' => e = .returned (.int .u32 (turn 2097152 2048 x)) ∧ w' = w := by
  have hs : bits .and .u64 (IntKind.u64.wrap (-11)) 31 = 21 := by kernel_rfl
  go_enter Tryd.func27, Tryd.ntmps27
  go_wp2
  exact ⟨rfl, .int .u32 (turn 2097152 2048 x), by kernel_rfl, rfl, rfl⟩
theorem rotR_11 (x : Int) (w : World) : Calls Tryd.prog 25 #[.int .u32 x, .int .i64 11] w fun e w' => e = .returned (.int .u32 (turn 2097152 2048 x)) ∧ Below w.heap.size w w' := by
  rw [turn, or_turn]
  go_enter Tryd.func25, Tryd.ntmps25
  go_wp2_with fail
  go_quiet (fail)
  go_wp2_with fail
  exact ⟨rfl, .int .u32 (bits .or .u32 (x / 2048) (x * 2097152 % 4294967296)), by kernel_rfl, rfl, below_drewN w nq⟩
theorem rotL_13 (x : Int) (w : World) : Calls Tryd.prog 27 #[.int .u32 x, .int .i64 (-13)] w fun e w' => e = .returned (.int .u32 (turn 524288 8192 x)) ∧ w' = w := by
  have hs : bits .and .u64 (IntKind.u64.wrap (-13)) 31 = 19 := by kernel_rfl
  go_enter Tryd.func27, Tryd.ntmps27
  go_wp2
  exact ⟨rfl, .int .u32 (turn 524288 8192 x), by kernel_rfl, rfl, rfl⟩
theorem rotR_13 (x : Int) (w : World) : Calls Tryd.prog 25 #[.int .u32 x, .int .i64 13] w fun e w' => e = .returned (.int .u32 (turn 524288 8192 x)) ∧ Below w.heap.size w w' := by
  rw [turn, or_turn]
  go_enter Tryd.func25, Tryd.ntmps25
  go_wp2_with fail
  go_quiet (fail)
  go_wp2_with fail
  exact ⟨rfl, .int .u32 (bits .or .u32 (x / 8192) (x * 524288 % 4294967296)), by kernel_rfl, rfl, below_drewN w nq⟩
theorem rotL_17 (x : Int) (w : World) : Calls Tryd.prog 27 #[.int .u32 x, .int .i64 (-17)] w fun e w' => e = .returned (.int .u32 (turn 32768 131072 x)) ∧ w' = w := by
  have hs : bits .and .u64 (IntKind.u64.wrap (-17)) 31 = 15 := by kernel_rfl
  go_enter Tryd.func27, Tryd.ntmps27
  go_wp2
  exact ⟨rfl, .int .u32 (turn 32768 131072 x), by kernel_rfl, rfl, rfl⟩
theorem rotR_17 (x : Int) (w : World) : Calls Tryd.prog 25 #[.int .u32 x, .int .i64 17] w fun e w' => e = .returned (.int .u32 (turn 32768 131072 x)) ∧ Below w.heap.size w w' := by
  rw [turn, or_turn]
  go_enter Tryd.func25, Tryd.ntmps25
  go_wp2_with fail
  go_quiet (fail)
  go_wp2_with fail
  exact ⟨rfl, .int .u32 (bits .or .u32 (x / 131072) (x * 32768 % 4294967296)), by kernel_rfl, rfl, below_drewN w nq⟩
theorem rotL_18 (x : Int) (w : World) : Calls Tryd.prog 27 #[.int .u32 x, .int .i64 (-18)] w fun e w' => e = .returned (.int .u32 (turn 16384 262144 x)) ∧ w' = w := by
  have hs : bits .and .u64 (IntKind.u64.wrap (-18)) 31 = 14 := by kernel_rfl
  go_enter Tryd.func27, Tryd.ntmps27
  go_wp2
  exact ⟨rfl, .int .u32 (turn 16384 262144 x), by kernel_rfl, rfl, rfl⟩
theorem rotR_18 (x : Int) (w : World) : Calls Tryd.prog 25 #[.int .u32 x, .int .i64 18] w fun e w' => e = .returned (.int .u32 (turn 16384 262144 x)) ∧ Below w.heap.size w w' := by
  rw [turn, or_turn]
  go_enter Tryd.func25, Tryd.ntmps25
  go_wp2_with fail
  go_quiet (fail)
  go_wp2_with fail
  exact ⟨rfl, .int .u32 (bits .or .u32 (x / 262144) (x * 16384 % 4294967296)), by kernel_rfl, rfl, below_drewN w nq⟩
theorem rotL_19 (x : Int) (w : World) : Calls Tryd.prog 27 #[.int .u32 x, .int .i64 (-19)] w fun e w' => e = .returned (.int .u32 (turn 8192 524288 x)) ∧ w' = w := by
  have hs : bits .and .u64 (IntKind.u64.wrap (-19)) 31 = 13 := by kernel_rfl
  go_enter Tryd.func27, Tryd.ntmps27
  go_wp2
  exact ⟨rfl, .int .u32 (turn 8192 524288 x), by kernel_rfl, rfl, rfl⟩
theorem rotR_19 (x : Int) (w : World) : Calls Tryd.prog 25 #[.int .u32 x, .int .i64 19] w fun e w' => e = .returned (.int .u32 (turn 8192 524288 x)) ∧ Below w.heap.size w w' := by
  rw [turn, or_turn]
  go_enter Tryd.func25, Tryd.ntmps25
  go_wp2_with fail
  go_quiet (fail)
  go_wp2_with fail
  exact ⟨rfl, .int .u32 (bits .or .u32 (x / 524288) (x * 8192 % 4294967296)), by kernel_rfl, rfl, below_drewN w nq⟩
theorem rotL_22 (x : Int) (w : World) : Calls Tryd.prog 27 #[.int .u32 x, .int .i64 (-22)] w fun e w' => e = .returned (.int .u32 (turn 1024 4194304 x)) ∧ w' = w := by
  have hs : bits .and .u64 (IntKind.u64.wrap (-22)) 31 = 10 := by kernel_rfl
  go_enter Tryd.func27, Tryd.ntmps27
  go_wp2
  exact ⟨rfl, .int .u32 (turn 1024 4194304 x), by kernel_rfl, rfl, rfl⟩
theorem rotR_22 (x : Int) (w : World) : Calls Tryd.prog 25 #[.int .u32 x, .int .i64 22] w fun e w' => e = .returned (.int .u32 (turn 1024 4194304 x)) ∧ Below w.heap.size w w' := by
  rw [turn, or_turn]
  go_enter Tryd.func25, Tryd.ntmps25
  go_wp2_with fail
  go_quiet (fail)
  go_wp2_with fail
  exact ⟨rfl, .int .u32 (bits .or .u32 (x / 4194304) (x * 1024 % 4294967296)), by kernel_rfl, rfl, below_drewN w nq⟩
theorem rotL_25 (x : Int) (w : World) : Calls Tryd.prog 27 #[.int .u32 x, .int .i64 (-25)] w fun e w' => e = .returned (.int .u32 (turn 128 33554432 x)) ∧ w' = w := by
  have hs : bits .and .u64 (IntKind.u64.wrap (-25)) 31 = 7 := by kernel_rfl
  go_enter Tryd.func27, Tryd.ntmps27
  go_wp2
  exact ⟨rfl, .int .u32 (turn 128 33554432 x), by kernel_rfl, rfl, rfl⟩
theorem rotR_25 (x : Int) (w : World) : Calls Tryd.prog 25 #[.int .u32 x, .int .i64 25] w fun e w' => e = .returned (.int .u32 (turn 128 33554432 x)) ∧ Below w.heap.size w w' := by
  rw [turn, or_turn]
  go_enter Tryd.func25, Tryd.ntmps25
  go_wp2_with fail
  go_quiet (fail)
  go_wp2_with fail
  exact ⟨rfl, .int .u32 (bits .or .u32 (x / 33554432) (x * 128 % 4294967296)), by kernel_rfl, rfl, below_drewN w nq⟩
end Go.Proofs.YtemkpihfenokmaaDoor
