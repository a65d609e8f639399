/- trystref00.Text, KeyBytes: bytes of a string, of a key. -/
import Derived.Test.YtemkpihfenokmaaDoorTwo
namespace Go.Proofs.YtemkpihfenokmaaDoor
open Go.RowKit
/-- The bytes of a string. -/
def strL (s : ByteArray) : List Int := s.data.toList.map fun b => (b.toNat : Int)
theorem strL_len (s : ByteArray) : (strL s).length = s.size := by
  rw [strL, List.length_map]
  rfl
theorem strL_nth (s : ByteArray) (k : Nat) (h : k < s.size) : nth (strL s) k = (s[k].toNat : Int) := by
  simp only [nth, strL, List.getD_eq_getElem?_getD, List.getElem?_map]
  rw [List.getElem?_eq_getElem (show k < s.data.toList.length from h)]
  rfl
theorem strL_byt (s : ByteArray) : Byt (strL s) := by
  intro x hx
  obtain ⟨b, _, rfl⟩ := List.mem_map.1 hx
  have := b.toNat_lt
  omega
set_option maxHeartbeats 4000000 in
set_option maxRecDepth 100000 in
theorem text_any (s : ByteArray) (w : World) (hm : s.size ≤ 70368744177664) :
    Calls Tryd.prog 10 #[.string s] w (NewV w (strL s)) := by
  obtain ⟨n, hn⟩ : ∃ n, n = s.size := ⟨_, rfl⟩
  have HN := Lib.hid hn.symm
  rw [← hn] at hm
  clear hn
  go_enter Tryd.func10, Tryd.ntmps10
  go_wp2_with fail
  go_loopw [3, 4] (fun v i wr => ∃ k, k ≤ n ∧ i = .int .i64 (k : Nat) ∧ Bts wr w.heap.size v ((strL s).take k) ∧ Below w.heap.size w wr) (fun _ i _ => n - (intOf i).toNat)
  case atStart => exact ⟨0, by omega, rfl, bts_nil _ _, Below.refl _ _⟩
  case round =>
    obtain ⟨k, hk, rfl, hbt, hb⟩ := hrel
    have HB := Lib.hid hb
    have HBT := Lib.hid hbt
    clear hb hbt
    have hss := HN.out
    by_cases hlt : k < n
    · have hks : k < s.size := by omega
      have hl1 : (k : Int) < (n : Int) := by omega
      have hx := (strL_nth s k hks).symm
      have HT := Lib.hid (take_bytes (strL s) k (by rw [strL_len]; exact hks))
      have HLE := Lib.hid (show ((strL s).take k).length + 1 ≤ 140737488355328 by
        rw [List.length_take]
        omega)
      go_wp2_with (at_builtin; (refine held_append _ _ rfl ?_))
      clear hx
      generalize nth (strL s) k = x at HT ⊢
      refine wpList_app1 _ _ rfl rfl rfl rfl HB.out HBT.out HLE.out fun v' w' h1 h2 _ _ => ?_
      rw [HT.out] at h1
      have H1 := Lib.hid h1
      have H2 := Lib.hid h2
      clear h1 h2
      go_wp2_with fail
      go_roundw
      case rel => exact ⟨k + 1, by omega, by go_num, H1.out, H2.out⟩
      case measure => simp [intOf]; omega
    · obtain rfl : k = n := by omega
      have HBE := Lib.hid (show Bts wr w.heap.size u3 (strL s) by have := HBT.out; rwa [List.take_of_length_le (by rw [strL_len]; omega)] at this)
      go_wp2_with fail
      exact ⟨rfl, u3, by kernel_rfl, HB.out, u3, rfl, HBE.out⟩
set_option maxHeartbeats 4000000 in
set_option maxRecDepth 100000 in
theorem keyBytes_any (l : List Int) (w : World) (hl : l.length = 32) :
    Calls Tryd.prog 11 #[.agg (vals l)] w (NewV w l) := by
  have HL := Lib.hid hl
  have HR := Lib.hid (show (w.alloc (.cells (vals l) 23)).heap[w.heap.size]? = some (.cells (vals l) 23 (0, 0)) from heap_alloc_new w _)
  have HA := Lib.hid ((Below.refl w.heap.size w).alloc (Nat.le_refl _) (.cells (vals l) 23))
  clear hl
  go_enter Tryd.func11, Tryd.ntmps11
  go_wp2_with fail
  go_loopw [3, 4] (fun v i wr => ∃ k, k ≤ 32 ∧ i = .int .i64 (k : Nat) ∧ Bts wr w.heap.size v (l.take k) ∧ (∀ b, v.ownBlock = some b → b ≠ w.heap.size) ∧ wr.heap[w.heap.size]? = some (.cells (vals l) 23 (0, 0)) ∧ Below w.heap.size w wr) (fun _ i _ => 32 - (intOf i).toNat)
  case atStart => exact ⟨0, by omega, rfl, bts_nil _ _, (fun b h => by cases h), HR.out, HA.out⟩
  case round =>
    clear HR HA
    obtain ⟨k, hk, rfl, hbt, hne, hr, hb⟩ := hrel
    have HB := Lib.hid hb
    have HBT := Lib.hid hbt
    have HNE := Lib.hid hne
    have HR := Lib.hid hr
    clear hb hbt hne hr
    by_cases hlt : k < 32
    · have x1 := (row_cell HR.out k).trans (vals_get (l := l) (by rw [HL.out]; exact hlt))
      have hl1 : (k : Int) < 32 := by omega
      have HT := Lib.hid (take_bytes l k (by rw [HL.out]; exact hlt))
      have HLE := Lib.hid (show (l.take k).length + 1 ≤ 140737488355328 by
        rw [List.length_take]
        omega)
      generalize nth l k = x at HT x1
      go_wp2_with (at_builtin; (refine held_append _ _ rfl ?_))
      refine wpList_app1 _ _ rfl rfl rfl rfl HB.out HBT.out HLE.out fun v' w' h1 h2 h3 h4 => ?_
      rw [HT.out] at h1
      have H1 := Lib.hid h1
      have H2 := Lib.hid h2
      have HR' := Lib.hid (show w'.heap[w.heap.size]? = some (.cells (vals l) 23 (0, 0)) from
        (h3.block w.heap.size (row_lt HR.out) (fun e => HNE.out _ e.symm rfl)).trans HR.out)
      have HNE' := Lib.hid (show ∀ b, v'.ownBlock = some b → b ≠ w.heap.size from fun b hb => by
        rcases h4 with h4 | ⟨j, h4, h5⟩
        · exact HNE.out b (h4.symm.trans hb)
        · obtain rfl : j = b := by rw [h4] at hb; exact Option.some.inj hb
          have := row_lt HR.out
          omega)
      clear h1 h2 h3 h4
      go_wp2_with fail
      go_roundw
      case rel => exact ⟨k + 1, by omega, by go_num, H1.out, HNE'.out, HR'.out, H2.out⟩
      case measure => simp [intOf]; omega
    · obtain rfl : k = 32 := by omega
      have HBE := Lib.hid (show Bts wr w.heap.size u3 l by have := HBT.out; rwa [List.take_of_length_le (Nat.le_of_eq HL.out)] at this)
      go_wp2_with fail
      exact ⟨rfl, u3, by kernel_rfl, HB.out, u3, rfl, HBE.out⟩
end Go.Proofs.YtemkpihfenokmaaDoor
