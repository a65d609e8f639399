/- digest.Sum: the digest of all parts, one behind the other. Condition: lengths that memory can hold; the program's variables as their texts lay them. -/
import Derived.Test.YtemkpihfenokmaaDoorShaI
import Derived.Test.YtemkpihfenokmaaDoorTwo
namespace Go.Proofs.YtemkpihfenokmaaDoor
open Go.RowKit
/-- Parts that a call is handed. -/
def PartsIn (w : World) (p : Option Addr) (vs : List (Option Addr × Nat × List Int)) : Prop := RowsIn w p vs ∧ ∀ r ∈ vs, r.2.2.length ≤ r.2.1 ∧ r.2.2.length ≤ 140737488355328 ∧ Byt r.2.2 ∧ ∀ a, r.1 = some a → a.block < w.heap.size
set_option maxHeartbeats 4000000 in
set_option maxRecDepth 100000 in
theorem sumD_any (p : Option Addr) (n c : Nat) (vs : List (Option Addr × Nat × List Int)) (w : World) (hn : vs.length = n) (h : PartsIn w p vs) (hf : Fst w) (ht : Tab w) (hm : n ≤ 140737488355328) (hb : (flat vs).length ≤ 70368744177664) :
    Calls Tryd.prog 6 #[.slice p n c] w (fun e w' => e = .returned (.agg (vals (shaL (flat vs)))) ∧ Below w.heap.size w w') := by
  have H := Lib.hid h
  have HN := Lib.hid hn
  have HM := Lib.hid hb
  have HF := Lib.hid hf
  have HT := Lib.hid ht
  have HA1 := Lib.hid ((Below.refl w.heap.size w).alloc (Nat.le_refl _) (.cells (vals (zer 32)) 28))
  have HR := Lib.hid (show (w.alloc (.cells (vals (zer 32)) 28)).heap[w.heap.size]? = some (.cells (vals (zer 32)) 28 (0, 0)) from heap_alloc_new w _)
  clear h hn hb hf ht
  go_enter Tryd.func6, Tryd.ntmps6
  go_wp2_with first
    | ((with_reducible refine guard_list ?_); (refine held_alloc 28 rfl ?_); refine wpl_alloc rfl 28 rfl (.agg (vals (zer 32))) (vals (zer 32)) rfl (fun w => by kernel_rfl) ?_)
    | (go_at_call 12; refine (new_any _ (HF.out.under HA1.out HF.out.1) (by rw [World.size_alloc]; omega)).mono ?_; rintro e w1 ⟨g, rfl, hg, hb1, hh1⟩; have HG := Lib.hid (show w.heap.size < g by rw [World.size_alloc] at hg; omega); have HB := Lib.hid (below_call hb1 HA1.out); have HR1 := Lib.hid (row_call hb1 HR.out); have HH := Lib.hid hh1; clear hg hb1 hh1)
  clear HA1 HR
  go_loopw [9] (fun i wr => ∃ k, k ≤ n ∧ i = .int .i64 (k : Nat) ∧ HashAt wr g (flat (vs.take k)) (flat (vs.take k)).length ∧ wr.heap[w.heap.size]? = some (.cells (vals (zer 32)) 28 (0, 0)) ∧ Below w.heap.size w wr) (fun i _ => n - (intOf i).toNat)
  case atStart => exact ⟨0, by omega, rfl, HH.out, HR1.out, HB.out⟩
  case round =>
    clear HH HR1 HB
    obtain ⟨k, hk, rfl, hh, hr, hb⟩ := hrel
    have HH := Lib.hid hh
    have HR := Lib.hid hr
    have HB := Lib.hid hb
    clear hh hr hb
    by_cases hlt : k < n
    · obtain ⟨r, hr⟩ : ∃ r, vs[k]? = some r := ⟨_, List.getElem?_eq_getElem (by rw [HN.out]; exact hlt)⟩
      obtain ⟨a, rfl, ha, hc⟩ := H.out.1.1 k r hr
      obtain ⟨hri, hri2⟩ := H.out.1.2 r (List.mem_of_getElem? hr)
      obtain ⟨hrc, hrm, hrb, hra⟩ := H.out.2 r (List.mem_of_getElem? hr)
      have HFT := Lib.hid (flat_take vs k r hr)
      have HFL := Lib.hid (flat_take_le vs (k + 1))
      obtain ⟨rp, rc, rl⟩ := r
      have hc1 : wr.cell? (a.add k) = some (.slice rp rl.length rc) := by
        rw [← hc]
        exact World.cell?_of_block (by rw [add_block]; exact HB.out.block _ ha)
      have HW := Lib.hid (show ∃ X : Unit, Calls Tryd.prog 13 #[.pointer (some ⟨g, 0, none⟩), .slice rp rl.length rc] wr (fun e w' => e = .returned (.tuple #[.int .i64 (rl.length : Nat), .nilIface]) ∧ wr.grownBy w' (some g) ∧ HashAt w' g (flat (vs.take k) ++ rl) ((flat (vs.take k)).length + rl.length)) from ⟨(), by
        have h1 := HFT.out
        have h2 := congrArg List.length h1
        rw [List.length_append] at h2
        have h3 := HFL.out
        have h4 := HM.out
        have h5 := HT.out.1
        have h6 := HG.out
        simp only at h1 h2 hrm
        exact write_any g rp _ rl rl.length rc _ wr rfl hrb (hri.under HB.out (Nat.le_refl _)) hrc hri2 (fun a ha => by have := hra a ha; omega) (by omega) HH.out (HT.out.under HB.out h5) (by omega) (by omega)⟩)
      clear hri hri2 hrc hrm hrb hra ha hc hr
      go_wp2_with (go_at_call 13; refine (Exists.choose_spec HW.out).mono ?_; rintro e w5 ⟨rfl, hg5, hh5⟩; have HG5 := Lib.hid hg5; have HH5 := Lib.hid hh5; clear hg5 hh5)
      go_roundw
      case rel => exact ⟨k + 1, hlt, by go_num, by rw [HFT.out, List.length_append]; exact HH5.out, (HG5.out.block w.heap.size (row_lt HR.out) (by have := HG.out; intro e; injection e with e; omega)).trans HR.out, HB.out.grown HG5.out HB.out.size (fun k hk => by cases hk; exact Nat.le_of_lt HG.out)⟩
      case measure => simp [intOf]; omega
    · obtain rfl : k = n := by omega
      have HFE := Lib.hid (show vs.take k = vs from List.take_of_length_le (Nat.le_of_eq HN.out))
      have HSL := Lib.hid (show (vals (shaL (flat vs))).size = 32 by simp [vals, shaL, outL])
      rw [HFE.out] at HH
      go_wp2_with first
        | (go_at_call 14; refine (sumH_any g (flat vs) _ HH.out (HT.out.under HB.out HT.out.1) (by have := HM.out; omega)).mono ?_; rintro e w5 ⟨rfl, hb5⟩; have HB5 := Lib.hid (below_call hb5 HB.out); have HR5 := Lib.hid (row_call hb5 HR.out); clear hb5)
        | ((with_reducible refine guard_list ?_); (refine held_st 28 _ _ rfl ?_); refine st_row rfl _ _ _ rfl w.heap.size (vals (shaL (flat vs))) rfl rfl _ _ HR5.out 32 tOut HSL.out rfl (vals_one _) ?_)
      refine ret_row rfl _ _ _ rfl (row_put HR5.out) 32 tOut HSL.out rfl ?_
      exact ⟨rfl, HB5.out.grown (grown_setRow (g := w.heap.size) (vals (shaL (flat vs))) (grown_of_below (Below.refl w5.heap.size w5) (some w.heap.size))) (Below.size HB5.out) (fun k hk => by cases hk; exact Nat.le_refl _)⟩
end Go.Proofs.YtemkpihfenokmaaDoor
