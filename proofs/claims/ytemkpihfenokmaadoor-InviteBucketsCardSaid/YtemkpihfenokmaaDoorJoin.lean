/- trystref00.Join and Two: lists of bytes, one behind the other. Condition: at most 2^46 bytes in all. -/
import Derived.Test.YtemkpihfenokmaaDoorRin
namespace Go.Proofs.YtemkpihfenokmaaDoor
open Go.RowKit
/-- The bytes of all of them. -/
def flat (vs : List (Option Addr × Nat × List Int)) : List Int := (vs.map (·.2.2)).flatten
theorem flat_take (vs : List (Option Addr × Nat × List Int)) (k : Nat) (r : Option Addr × Nat × List Int) (h : vs[k]? = some r) : flat (vs.take (k + 1)) = flat (vs.take k) ++ r.2.2 := by
  obtain ⟨hl, he⟩ := List.getElem?_eq_some_iff.1 h
  rw [flat, List.take_succ_eq_append_getElem hl, he]
  simp [flat]
theorem flat_take_le (vs : List (Option Addr × Nat × List Int)) (k : Nat) : (flat (vs.take k)).length ≤ (flat vs).length := by
  have h : flat vs = flat (vs.take k) ++ flat (vs.drop k) := by rw [flat, flat, flat, ← List.flatten_append, ← List.map_append, List.take_append_drop]
  rw [h, List.length_append]
  omega
theorem take_bytes (l : List Int) (j : Nat) (h : j < l.length) : l.take j ++ [nth l j] = l.take (j + 1) := (take_nth l j h).symm
set_option maxHeartbeats 4000000 in
set_option maxRecDepth 100000 in
theorem join_any (p : Option Addr) (n c : Nat) (vs : List (Option Addr × Nat × List Int)) (w : World) (hn : vs.length = n) (h : RowsIn w p vs) (hm : n ≤ 140737488355328) (hb : (flat vs).length ≤ 70368744177664) :
    Calls Tryd.prog 20 #[.slice p n c] w (NewV w (flat vs)) := by
  have H := Lib.hid h
  have HN := Lib.hid hn
  have HM := Lib.hid hb
  clear h hn hb
  go_enter Tryd.func20, Tryd.ntmps20
  go_wp2
  go_loopw [3, 4] (fun v i wr => ∃ k, k ≤ n ∧ i = .int .i64 (k : Nat) ∧ Bts wr w.heap.size v (flat (vs.take k)) ∧ Below w.heap.size w wr) (fun _ i _ => n - (intOf i).toNat)
  case atStart => exact ⟨0, by omega, rfl, bts_nil _ _, Below.refl _ _⟩
  case round =>
    obtain ⟨k, hk, rfl, hbt, hb⟩ := hrel
    have HB := Lib.hid hb
    have HBT := Lib.hid hbt
    clear hb hbt
    by_cases hlt : k < n
    · obtain ⟨r, hr⟩ : ∃ r, vs[k]? = some r := ⟨_, List.getElem?_eq_getElem (by rw [HN.out]; exact hlt)⟩
      obtain ⟨a, rfl, ha, hc⟩ := H.out.1 k r hr
      have hri := H.out.2 r (List.mem_of_getElem? hr)
      have HFT := Lib.hid (flat_take vs k r hr)
      have HFL := Lib.hid (flat_take_le vs (k + 1))
      have HRI := Lib.hid hri.1
      have hc0 := hc
      obtain ⟨rp, rc, rl⟩ := r
      have HC := Lib.hid (show ∀ wr, Below w.heap.size w wr → wr.cell? (a.add k) = some (.slice rp rl.length rc) from fun wr hb => by
        rw [← hc0]
        exact World.cell?_of_block (by rw [add_block]; exact hb.block _ ha))
      clear hc hc0 hri ha hr
      simp only at HRI HFT
      have hc1 := HC.out _ HB.out
      have HRL := Lib.hid (show rl.length ≤ 70368744177664 by
        have h1 := congrArg List.length HFT.out
        rw [List.length_append] at h1
        have h2 := HFL.out
        have h3 := HM.out
        omega)
      generalize hrl : rl.length = rn at *
      have HRN := Lib.hid hrl
      clear hrl
      have hrl2 := HRL.out
      go_wp2
      go_loopw [3, 5] (fun v i wr => ∃ j, j ≤ rn ∧ i = .int .i64 (j : Nat) ∧ Bts wr w.heap.size v (flat (vs.take k) ++ rl.take j) ∧ Below w.heap.size w wr) (fun _ i _ => rn - (intOf i).toNat)
      case atStart => exact ⟨0, by omega, rfl, by simpa using HBT.out, HB.out⟩
      case round =>
        clear hc1 HB HBT
        obtain ⟨j, hj, rfl, hbt, hb⟩ := hrel
        have HB := Lib.hid hb
        have HBT := Lib.hid hbt
        have hc1 := HC.out _ hb
        clear hb hbt
        by_cases hjt : j < rn
        · obtain ⟨a2, rfl, _, x1⟩ := HRI.out.under HB.out (Nat.le_refl _) j (by rw [HRN.out]; exact hjt)
          have HT := Lib.hid (take_bytes rl j (by rw [HRN.out]; exact hjt))
          have HLE := Lib.hid (show (flat (vs.take k) ++ rl.take j).length + 1 ≤ 140737488355328 by
            have h1 := congrArg List.length HFT.out
            rw [List.length_append] at h1
            have h2 := HFL.out
            have h3 := HM.out
            have h4 : (rl.take j).length ≤ rl.length := List.length_take_le' ..
            rw [List.length_append]
            omega)
          generalize nth rl j = x at x1 HT
          go_wp2_with (at_builtin; (refine held_append _ _ rfl ?_))
          refine wpList_app1 _ _ rfl rfl rfl rfl HB.out HBT.out HLE.out fun v' w' h1 h2 _ _ => ?_
          rw [List.append_assoc, HT.out] at h1
          have H1 := Lib.hid h1
          have H2 := Lib.hid h2
          clear h1 h2
          go_wp2
          go_roundw
          case rel => exact ⟨j + 1, by omega, by go_num, H1.out, H2.out⟩
          case measure => simp [intOf]; omega
        · obtain rfl : j = rn := by omega
          have HBT1 := Lib.hid (show Bts wr w.heap.size u3 (flat (vs.take (k + 1))) by rw [HFT.out]; have := HBT.out; rwa [List.take_of_length_le (Nat.le_of_eq HRN.out)] at this)
          go_wp2
          go_roundw
          case rel => exact ⟨k + 1, by omega, by go_num, HBT1.out, HB.out⟩
          case measure => simp [intOf]; omega
    · obtain rfl : k = n := by omega
      have HBT1 := Lib.hid (show Bts wr w.heap.size u3 (flat vs) by have := HBT.out; rwa [List.take_of_length_le (Nat.le_of_eq HN.out)] at this)
      go_wp2
      exact ⟨rfl, u3, by kernel_rfl, HB.out, _, rfl, HBT1.out⟩
end Go.Proofs.YtemkpihfenokmaaDoor
