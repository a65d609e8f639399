/- trystlaw20.sized: bytes brought to a length. Condition: lengths that memory can hold. -/
import Derived.Test.YtmochmpamgfboabDoorPutC
namespace Go.Proofs.YtmochmpamgfboabDoor
open Go.RowKit
def sizedL (l : List Int) (n : Nat) : List Int := l.take n ++ List.replicate (n - l.length) 0
theorem sizedL_len (l : List Int) (n : Nat) : (sizedL l n).length = n := by
  simp only [sizedL, List.length_append, List.length_take, List.length_replicate]
  omega
theorem set_next {l : List Int} {k n : Nat} (hk : k < l.length) (hn : k < n) : (l.take k ++ List.replicate (n - k) 0).set k (nth l k) = l.take (k + 1) ++ List.replicate (n - (k + 1)) 0 := by
  have hl : (l.take k).length = k := by rw [List.length_take]; omega
  have hr : List.replicate (n - k) (0 : Int) = 0 :: List.replicate (n - (k + 1)) 0 := by
    rw [← List.replicate_succ]
    congr 1
    omega
  rw [List.set_append_right _ _ (by omega), hl, Nat.sub_self, hr, List.set_cons_zero, take_nth l k hk]
  simp
set_option maxHeartbeats 4000000 in
set_option maxRecDepth 100000 in
theorem sized_any (p : Option Addr) (l : List Int) (m c n : Nat) (w : World) (hm : l.length = m) (h : BytesIn w p l) (hn : n ≤ 140737488355328) (hm2 : m ≤ 140737488355328) :
    Calls Tryd.prog 11 #[.slice p m c, .int .i64 n] w (NewV w (sizedL l n)) := by
  have hmk : ∀ u : World, (Instr.makeSlice 28 (.int .i64 (n : Int)) (.int .i64 (n : Int))).run Tryd.prog u = .ok (.slice (some ⟨u.heap.size, 0, none⟩) n n) (u.alloc (.cells (vals (List.replicate n 0)) 5)) := fun u => run_make_bts u n n (Nat.le_refl _) (by omega)
  have H := Lib.hid h
  have HM := Lib.hid hm
  have HB0 := Lib.hid ((Below.refl w.heap.size w).alloc (Nat.le_refl _) (.cells (vals (List.replicate n 0)) 5))
  have HR0 := Lib.hid (show (w.alloc (.cells (vals (List.replicate n 0)) 5)).heap[w.heap.size]? = some (.cells (vals (l.take 0 ++ List.replicate (n - 0) 0)) 5 (0, 0)) from heap_alloc_new w _)
  clear h hm
  go_enter Tryd.func11, Tryd.ntmps11
  go_wp2
  go_loopw [6] (fun i wr => ∃ k, k ≤ n ∧ k ≤ m ∧ i = .int .i64 (k : Nat) ∧ wr.heap[w.heap.size]? = some (.cells (vals (l.take k ++ List.replicate (n - k) 0)) 5 (0, 0)) ∧ Below w.heap.size w wr) (fun i _ => n - (intOf i).toNat)
  case atStart => exact ⟨0, by omega, by omega, rfl, HR0.out, HB0.out⟩
  case round =>
    clear HB0 HR0 hmk
    obtain ⟨k, hk, hkm, rfl, hrow, hb⟩ := hrel
    have HB := Lib.hid hb
    have HROW := Lib.hid hrow
    clear hb hrow
    by_cases hlt : k < n ∧ k < m
    · have h1 := hlt.1
      have h2 := hlt.2
      clear hlt
      have HLN := Lib.hid (show (l.take k ++ List.replicate (n - k) 0).length = n by
        have := HM.out
        simp only [List.length_append, List.length_take, List.length_replicate]
        omega)
      obtain ⟨a2, rfl, _, x1⟩ := H.out.under HB.out (Nat.le_refl _) k (by rw [HM.out]; exact h2)
      have x2 := (row_cell HROW.out k).trans (vals_get (by rw [HLN.out]; exact h1))
      have x3 := row_free HROW.out k
      have HR2 := Lib.hid (show (wr.setCell ⟨w.heap.size, k, none⟩ (.int .u8 (nth l k))).heap[w.heap.size]? = some (.cells (vals (l.take (k + 1) ++ List.replicate (n - (k + 1)) 0)) 5 (0, 0)) by
        rw [heap_setCell_same _ _ _ _ _ _ HROW.out, ← set_next (by rw [HM.out]; exact h2) h1]
        congr 2
        apply Array.ext'
        simp [vals, List.map_set])
      have HB2 := Lib.hid (show Below w.heap.size w (wr.setCell ⟨w.heap.size, k, none⟩ (.int .u8 (nth l k))) from HB.out.setCell (Nat.le_refl _) _)
      generalize nth l k = x at x1 HR2 HB2
      generalize nth (l.take k ++ List.replicate (n - k) 0) k = y at x2
      go_wp2
      go_roundw
      case rel => exact ⟨k + 1, by omega, by omega, by go_num, HR2.out, HB2.out⟩
      case measure => simp [intOf]; omega
    · have HE := Lib.hid (show l.take k ++ List.replicate (n - k) 0 = sizedL l n by
        have := HM.out
        rcases (show k = n ∨ k < n ∧ k = m by omega) with h3 | ⟨h3, h4⟩
        · subst h3
          rw [sizedL, Nat.sub_self, show k - l.length = 0 by omega]
        · rw [sizedL, List.take_of_length_le (show l.length ≤ k by omega), List.take_of_length_le (show l.length ≤ n by omega)]
          congr 2
          omega)
      have HBT := Lib.hid (show Bts wr w.heap.size (.slice (some ⟨w.heap.size, 0, none⟩) n n) (sizedL l n) by
        have h5 := Bts.row (l := sizedL l n) (B := w.heap.size) (c := n) (HE.out ▸ HROW.out) (Nat.le_refl _) (by rw [sizedL_len]; exact Nat.le_refl _) (by simp only [maxLen]; omega) (by rw [vals_size, sizedL_len]) (by
          have e : (sizedL l n).length = ((sizedL l n).map (Value.int .u8)).length := by simp
          rw [e]
          exact List.take_length)
        rwa [sizedL_len] at h5)
      by_cases h1 : k < n
      · have h2 : ¬ k < m := fun h => hlt ⟨h1, h⟩
        clear hlt
        go_wp2
        exact ⟨rfl, _, by kernel_rfl, HB.out, _, rfl, HBT.out⟩
      · clear hlt
        go_wp2
        exact ⟨rfl, _, by kernel_rfl, HB.out, _, rfl, HBT.out⟩
end Go.Proofs.YtmochmpamgfboabDoor
