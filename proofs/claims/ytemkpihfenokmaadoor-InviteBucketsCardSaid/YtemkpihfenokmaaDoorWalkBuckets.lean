/- The law InviteBuckets walked: it returns true. Condition: the program's variables as their texts lay them. -/
import Derived.Test.YtemkpihfenokmaaDoorBkt
namespace Go.Proofs.YtemkpihfenokmaaDoor
open Go.RowKit
theorem bucket_two (l : List Int) : bucketL l 2 = (1, 0) := by
  rw [bucketL, if_neg (by omega), show (2 : Int) - 1 = 1 by decide, Int.emod_one]
  rfl
theorem bucket_good (l : List Int) (k : Int) (h : (bucketL l k).2 = 0) : 1 ≤ (bucketL l k).1 ∧ (bucketL l k).1 < k := by
  rw [bucketL] at h ⊢
  by_cases hk : k < 2 ∨ 64 < k
  · rw [if_pos hk] at h
    cases h
  · rw [if_neg hk]
    have h1 := Int.emod_nonneg (num ((shaB l).take 8)) (show k - 1 ≠ 0 by omega)
    have h2 := Int.emod_lt_of_pos (num ((shaB l).take 8)) (show 0 < k - 1 by omega)
    show 1 ≤ 1 + _ ∧ 1 + _ < k
    omega
set_option maxHeartbeats 4000000 in
set_option maxRecDepth 100000 in
theorem inviteBuckets_walk (l : List Int) (k : Int) (w : World) (hl : l.length = 32) (hby : Byt l) (hf : Fst w) (ht : Tab w) :
    Calls Tryd.prog 3 #[.agg (vals l), .int .i64 k] w (fun e w' => e = .returned (.bool true) ∧ Below w.heap.size w w') := by
  have HR := Lib.hid (show (w.alloc (.cells (vals l) 23)).heap[w.heap.size]? = some (.cells (vals l) 23 (0, 0)) from heap_alloc_new w _)
  have HA := Lib.hid ((Below.refl w.heap.size w).alloc (Nat.le_refl _) (.cells (vals l) 23))
  have HP := Lib.hid (show ∀ (k : Int) (w' : World), Below w.heap.size w w' → Calls Tryd.prog 4 #[.agg (vals l), .int .i64 k] w' (fun e w'' => e = .returned (.tuple #[.int .i64 (bucketL l k).1, .int .i64 (bucketL l k).2]) ∧ Below w'.heap.size w' w'') from fun k w' h => bucketP_any l k w' hl hby (hf.under h hf.1) (ht.under h ht.1))
  have HQ := Lib.hid (show ∀ (k : Int) (w' : World), Calls Tryd.prog 5 #[.agg (vals l), .int .i64 k] w' (fun e w'' => e = .returned (.tuple #[.int .i64 (bucketL l k).1, .int .i64 (bucketL l k).2]) ∧ Below w'.heap.size w' w'') from fun k w' => bucketR_any l k w' hl hby)
  have HS := Lib.hid (show (vals l).size = 32 by rw [vals_size, hl])
  have HG := Lib.hid (bucket_good l k)
  have HT1 := Lib.hid (bucket_two l)
  clear hf ht
  obtain ⟨b, e, hbe⟩ : ∃ b e, bucketL l k = (b, e) := ⟨_, _, rfl⟩
  rw [hbe] at HG
  have HBE := Lib.hid hbe
  clear hbe
  have T1 : True := trivial
  by_cases he : e = 0
  · subst he
    have hg := HG.out rfl
    have g1 : 1 ≤ b := hg.1
    have g2 : b < k := hg.2
    have g3 : ¬ b < 1 := by omega
    have g4 : ¬ k ≤ b := by omega
    clear hg HG
    go_enter Tryd.func3, Tryd.ntmps3
    go_wp2_with first
      | ((with_reducible refine guard_list ?_); (refine held_load 23 _ rfl ?_); refine wpl_ld_at2 rfl _ _ rfl ⟨w.heap.size, 0, none⟩ rfl (vals l) 32 tKeyB HS.out (fun j v hv => by rw [add_lit]; exact (row_cell HR.out j).trans hv) ?_)
      | (go_at_call 4; refine ((fun (_ : True) => HP.out k _ HA.out) T1).mono ?_; rw [HBE.out]; rintro e w3 ⟨rfl, hb⟩; clear T1; replace HR := Lib.hid (row_call hb HR.out); replace HA := Lib.hid (below_call hb HA.out); clear hb)
      | (go_at_call 5; refine (HQ.out k _).mono ?_; rw [HBE.out]; rintro e w4 ⟨rfl, hb⟩; replace HR := Lib.hid (row_call hb HR.out); replace HA := Lib.hid (below_call hb HA.out); clear hb)
      | (go_at_call 4; refine (HP.out 2 _ HA.out).mono ?_; rw [HT1.out]; rintro e w5 ⟨rfl, hb⟩; replace HA := Lib.hid (below_call hb HA.out); clear hb)
    exact ⟨rfl, .bool true, by kernel_rfl, rfl, HA.out⟩
  · have he2 : (e == 0) = false := by simpa using he
    go_enter Tryd.func3, Tryd.ntmps3
    go_wp2_with first
      | ((with_reducible refine guard_list ?_); (refine held_load 23 _ rfl ?_); refine wpl_ld_at2 rfl _ _ rfl ⟨w.heap.size, 0, none⟩ rfl (vals l) 32 tKeyB HS.out (fun j v hv => by rw [add_lit]; exact (row_cell HR.out j).trans hv) ?_)
      | (go_at_call 4; refine ((fun (_ : True) => HP.out k _ HA.out) T1).mono ?_; rw [HBE.out]; rintro e w3 ⟨rfl, hb⟩; clear T1; replace HR := Lib.hid (row_call hb HR.out); replace HA := Lib.hid (below_call hb HA.out); clear hb)
      | (go_at_call 5; refine (HQ.out k _).mono ?_; rw [HBE.out]; rintro e w4 ⟨rfl, hb⟩; replace HR := Lib.hid (row_call hb HR.out); replace HA := Lib.hid (below_call hb HA.out); clear hb)
      | (go_at_call 4; refine (HP.out 2 _ HA.out).mono ?_; rw [HT1.out]; rintro e w5 ⟨rfl, hb⟩; replace HA := Lib.hid (below_call hb HA.out); clear hb)
    exact ⟨rfl, .bool true, by kernel_rfl, rfl, HA.out⟩
end Go.Proofs.YtemkpihfenokmaaDoor
