/- Is a number within two others: codec's within. No condition. -/
import Derived.Test.YtmochmpamgfboaaDoorBytK
namespace Go.Proofs.YtmochmpamgfboaaDoor
open Go.RowKit
set_option maxRecDepth 100000 in
theorem within_ev {n a b : Int} {c : Bool} (h : decide (a ≤ n ∧ n ≤ b) = c) (w : World) : Calls Tryd.prog 59 #[.int .i64 n, .int .i64 a, .int .i64 b] w (Gives (· = .bool c) w) := by
  by_cases h1 : a ≤ n
  · by_cases h2 : n ≤ b
    · obtain rfl : c = true := by rw [← h]; exact decide_eq_true ⟨h1, h2⟩
      clear h
      go_enter Tryd.func59, Tryd.ntmps59
      go_wp2
      exact ⟨rfl, .bool true, by kernel_rfl, _, rfl, rfl, Below.refl _ _⟩
    · obtain rfl : c = false := by rw [← h]; exact decide_eq_false fun h => h2 h.2
      clear h
      go_enter Tryd.func59, Tryd.ntmps59
      go_wp2
      exact ⟨rfl, .bool false, by kernel_rfl, _, rfl, rfl, Below.refl _ _⟩
  · obtain rfl : c = false := by rw [← h]; exact decide_eq_false fun h => h1 h.1
    clear h
    go_enter Tryd.func59, Tryd.ntmps59
    go_wp2
    exact ⟨rfl, .bool false, by kernel_rfl, _, rfl, rfl, Below.refl _ _⟩
end Go.Proofs.YtmochmpamgfboaaDoor
