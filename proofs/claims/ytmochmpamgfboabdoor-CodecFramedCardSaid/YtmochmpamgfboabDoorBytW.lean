/- The references' helpers for bytes: EqBytes, Spare, Kept, CopyBytes: what each answers. Condition: lengths that memory can hold. -/
import Derived.Test.YtmochmpamgfboabDoorByt
namespace Go.Proofs.YtmochmpamgfboabDoor
open Go.RowKit

set_option maxRecDepth 100000 in
theorem eqBytes_any (p1 p2 : Option Addr) (l1 l2 : List Int) (n1 n2 c1 c2 : Nat) (w : World) (hn1 : l1.length = n1) (hn2 : l2.length = n2) (h1 : BytesIn w p1 l1) (h2 : BytesIn w p2 l2) (hm : n1 ≤ 9223372036854775807) :
    Calls Tryd.prog 24 #[.slice p1 n1 c1, .slice p2 n2 c2] w (Gives (· = .bool (decide (l1 = l2))) w) := by
  by_cases hl : n1 = n2
  · subst hl
    go_enter Tryd.func24, Tryd.ntmps24
    have H1 := Lib.hid h1
    have H2 := Lib.hid h2
    have HN1 := Lib.hid hn1
    have HN2 := Lib.hid hn2
    clear h1 h2 hn1 hn2
    go_wp2
    go_loopw [5] (fun i wr => ∃ k : Nat, k ≤ n1 ∧ i = .int .i64 k ∧ l1.take k = l2.take k ∧ Below w.heap.size w wr) (fun i _ => n1 - (intOf i).toNat)
    case atStart => exact ⟨0, by omega, rfl, by simp, Below.refl _ _⟩
    case round =>
      obtain ⟨k, hk, rfl, heq, hb⟩ := hrel
      have HEQ := Lib.hid heq
      have HB := Lib.hid hb
      clear heq hb
      by_cases hlt : k < n1
      · obtain ⟨a1, rfl, _, x1⟩ := H1.out.keep HB.out k (by rw [HN1.out]; exact hlt)
        obtain ⟨a2, rfl, _, x2⟩ := H2.out.keep HB.out k (by rw [HN2.out]; exact hlt)
        have HE := Lib.hid (show nth l1 k = nth l2 k → l1.take (k + 1) = l2.take (k + 1) from fun e => take_eq_step HEQ.out (by rw [HN1.out]; exact hlt) (by rw [HN2.out]; exact hlt) e)
        have HD := Lib.hid (show nth l1 k ≠ nth l2 k → l1 ≠ l2 from nth_ne)
        generalize nth l1 k = x at *
        generalize nth l2 k = y at *
        by_cases hxy : x = y
        · subst hxy
          have HEQ2 := Lib.hid (HE.out rfl)
          clear HE HD
          go_wp2
          go_region
          go_wp2
          go_roundw
          case rel => exact ⟨k + 1, by omega, by go_num, HEQ2.out, by first | exact HB.out.drew | exact HB.out⟩
          case measure => simp [intOf]; omega
        · have HEQ2 := Lib.hid (HD.out hxy)
          clear HE HD
          go_wp2
          go_region
          go_wp2
          exact ⟨rfl, .bool false, by kernel_rfl, _, rfl, by rw [decide_eq_false HEQ2.out], by first | exact HB.out.drew | exact HB.out⟩
      · obtain rfl : k = n1 := by omega
        have e : l1 = l2 := by rw [← List.take_of_length_le (Nat.le_of_eq HN1.out), HEQ.out, List.take_of_length_le (Nat.le_of_eq HN2.out)]
        have HE := Lib.hid e
        go_wp2
        exact ⟨rfl, .bool true, by kernel_rfl, _, rfl, by rw [decide_eq_true HE.out], HB.out⟩
  · go_enter Tryd.func24, Tryd.ntmps24
    have e : l1 ≠ l2 := fun e => hl (by rw [← hn1, ← hn2, e])
    have HE := Lib.hid e
    clear h1 h2 e
    go_wp2
    exact ⟨rfl, .bool false, by kernel_rfl, _, rfl, by rw [decide_eq_false HE.out], Below.refl _ _⟩

end Go.Proofs.YtmochmpamgfboabDoor
