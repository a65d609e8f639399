/- The law FieldOf returns true for every 32 bytes and every word. -/
import Derived.Test.YtciakfhjjnmeeaaFieldB
import Derived.Test.YtciakfhjjnmeeaaRefD
import Derived.Test.YtciakfhjjnmeeaaEq
import Derived.Deep.RegionWith
namespace Go.Proofs.Ytciakfhjjnmeeaa
open Go.RowKit Nt

set_option maxHeartbeats 1000000 in
set_option maxRecDepth 100000 in
theorem fieldOf_walk (L : List Int) (m : Nat) (w : World) (hl : L.length = 32) (hb : Byt L) (hm : m < 18446744073709551616) :
    Calls Try.prog 3 #[.agg (vals L), .int .u64 m] w fun e w' => e = .returned (.bool true) ∧ Below w.heap.size w w' := by
  have HL := Lib.hid hl
  have HM := Lib.hid hm
  have hm0 : (0 : Int) ≤ (m : Int) := by omega
  have hm1 : (m : Int) < 18446744073709551616 := by omega
  have heq : ∀ (V : Nat) w, (Op.equalIn 10000 22 (.agg (vals (bytesN V))) (.agg (vals (bytesN V)))).run Try.prog w = .ok true w := fun V w => by
    have h := run_equalIn_vals (P := Try.prog) w .u8 9998 22 5 32 Try.underlying22 Try.underlying5 (fun w => by kernel_rfl) (bytesN V) (bytesN V) (bytesN_len _) (bytesN_len _)
    rw [decide_eq_true rfl] at h
    exact h
  clear hl hm
  go_enter Try.func3, Try.ntmps3
  go_wp2_with fail
  have hu := Try.underlying22
  have hi : (Try.prog.info? 22).map (·.size) = some (vals L).toList.length := by rw [Array.length_toList, vals_size, HL.out]; kernel_rfl
  have HB : Below w.heap.size w (w.alloc (.cells (vals L) 22)) := by go_grown
  have HR : (w.alloc (.cells (vals L) 22)).rangeAt w.heap.size 0 (vals L).toList := range_row row_new
  generalize w.alloc (.cells (vals L) 22) = W at *
  refine wp_region_held_drew (S := (fun w' => w'.rangeAt w.heap.size 0 (vals L).toList ∧ Below w.heap.size w w')) (by kernel_rfl) ⟨(World.rangeAt_drew _ _ _ _).2 HR, HB.drew⟩ (fun hS => ?_)
  refine wpAnyH_take (i := 0) (oi := ⟨some 5, _, _, _, _, _⟩) rfl (by kernel_rfl) (by kernel_rfl) (by kernel_rfl) (fun _ _ _ h => h) (yieldsIf_load_mid (by rfl) _ _ rfl _ _ (by rfl) (vals L).toList _ (fun _ h => h.1) hu rfl hi) hS ?_
  try simp only [Act.put]
  refine wpAnyH_take (i := 3) (oi := ⟨some 8, _, _, _, _, _⟩) rfl (by kernel_rfl) (by kernel_rfl) (by kernel_rfl) (fun _ _ _ h => h) (yieldsIf_load_mid (by rfl) _ _ rfl _ _ (by rfl) (vals L).toList _ (fun _ h => h.1) hu rfl hi) hS ?_
  try simp only [Act.put]
  refine wpAnyH_ready (rs := [1]) (by kernel_rfl) (by simp) (AllReadyH.cons (o := ⟨some 6, _, _, _, _, _⟩) rfl (fun K hK => ?_) AllReadyH.nil)
  go_simp
  refine (of_any L _ HL.out hb).mono ?_
  rintro e w' ⟨z0, z1, z2, z3, z4, rfl, hz, hbz⟩
  refine hK.out _ _ ⟨range_keep hbz hS.1, below_call hbz hS.2⟩ (fun hS => ?_)
  clear hK K
  try simp only [Act.put]
  refine wpAnyH_ready (rs := [2]) (by kernel_rfl) (by simp) (AllReadyH.cons (o := ⟨some 7, _, _, _, _, _⟩) rfl (fun K hK => ?_) AllReadyH.nil)
  go_simp
  refine (bytes_any _ _ _ _ _ _ _ hz).mono ?_
  rintro e w' ⟨rfl, hbz⟩
  refine hK.out _ _ ⟨range_keep hbz hS.1, below_call hbz hS.2⟩ (fun hS => ?_)
  clear hK K
  try simp only [Act.put]
  clear hz
  refine wpAnyH_ready (rs := [4]) (by kernel_rfl) (by simp) (AllReadyH.cons (o := ⟨some 9, _, _, _, _, _⟩) rfl (fun K hK => ?_) AllReadyH.nil)
  go_simp
  refine (of08_any L _ HL.out hb).mono ?_
  rintro e w' ⟨rfl, hbz⟩
  refine hK.out _ _ ⟨range_keep hbz hS.1, below_call hbz hS.2⟩ (fun hS => ?_)
  clear hK K
  try simp only [Act.put]
  refine wpAnyH_take (i := 5) (oi := ⟨some 10, _, _, _, _, _⟩) (v := ?_) rfl (by kernel_rfl) (by kernel_rfl) (by kernel_rfl) (fun _ _ _ h => h) (Or.inl ⟨by rfl, ?_⟩) hS ?_
  rotate_left
  · intro w hSw; go_simp; first | done | with_reducible rfl
  try simp only [Act.put]
  refine wpAnyH_take (i := 6) (oi := ⟨some 11, _, _, _, _, _⟩) (v := ?_) rfl (by kernel_rfl) (by kernel_rfl) (by kernel_rfl) (fun _ _ _ h => h) (Or.inl ⟨by rfl, ?_⟩) hS ?_
  rotate_left
  · intro w hSw; go_simp; first | done | with_reducible rfl
  try simp only [Act.put]
  refine wpAnyH_take (i := 7) (oi := ⟨some 12, _, _, _, _, _⟩) (v := ?_) rfl (by kernel_rfl) (by kernel_rfl) (by kernel_rfl) (fun _ _ _ h => h) (Or.inl ⟨by rfl, ?_⟩) hS ?_
  rotate_left
  · intro w hSw; go_simp; first | done | with_reducible rfl
  try simp only [Act.put]
  refine wpAnyH_take (i := 10) (oi := ⟨some 15, _, _, _, _, _⟩) (v := ?_) rfl (by kernel_rfl) (by kernel_rfl) (by kernel_rfl) (fun _ _ _ h => h) (Or.inl ⟨by rfl, ?_⟩) hS ?_
  rotate_left
  · intro w hSw; go_simp; first | done | with_reducible rfl
  try simp only [Act.put]
  refine wpAnyH_ready (rs := [8]) (by kernel_rfl) (by simp) (AllReadyH.cons (o := ⟨some 13, _, _, _, _, _⟩) rfl (fun K hK => ?_) AllReadyH.nil)
  go_simp
  refine (small_any _ _ hm0 hm1).mono ?_
  rintro e w' ⟨z0, z1, z2, z3, z4, rfl, hz, hbz⟩
  refine hK.out _ _ ⟨range_keep hbz hS.1, below_call hbz hS.2⟩ (fun hS => ?_)
  clear hK K
  try simp only [Act.put]
  refine wpAnyH_ready (rs := [9]) (by kernel_rfl) (by simp) (AllReadyH.cons (o := ⟨some 14, _, _, _, _, _⟩) rfl (fun K hK => ?_) AllReadyH.nil)
  go_simp
  refine (bytes_any _ _ _ _ _ _ _ hz).mono ?_
  rintro e w' ⟨rfl, hbz⟩
  refine hK.out _ _ ⟨range_keep hbz hS.1, below_call hbz hS.2⟩ (fun hS => ?_)
  clear hK K
  try simp only [Act.put]
  refine wpAnyH_ready (rs := [11]) (by kernel_rfl) (by simp) (AllReadyH.cons (o := ⟨some 16, _, _, _, _, _⟩) rfl (fun K hK => ?_) AllReadyH.nil)
  go_simp
  refine (small08_any m _ HM.out).mono ?_
  rintro e w' ⟨rfl, hbz⟩
  refine hK.out _ _ ⟨range_keep hbz hS.1, below_call hbz hS.2⟩ (fun hS => ?_)
  clear hK K
  try simp only [Act.put]
  refine wpAnyH_take (i := 12) (oi := ⟨some 17, _, _, _, _, _⟩) (v := ?_) rfl (by kernel_rfl) (by kernel_rfl) (by kernel_rfl) (fun _ _ _ h => h) (Or.inl ⟨by rfl, ?_⟩) hS ?_
  rotate_left
  · intro w hSw; go_simp; first | done | with_reducible rfl
  try simp only [Act.put]
  refine wpAnyH_take (i := 13) (oi := ⟨some 18, _, _, _, _, _⟩) (v := ?_) rfl (by kernel_rfl) (by kernel_rfl) (by kernel_rfl) (fun _ _ _ h => h) (Or.inl ⟨by rfl, ?_⟩) hS ?_
  rotate_left
  · intro w hSw; go_simp; first | done | with_reducible rfl
  try simp only [Act.put]
  refine wpAnyH_take (i := 14) (oi := ⟨some 4, _, _, _, _, _⟩) (v := ?_) rfl (by kernel_rfl) (by kernel_rfl) (by kernel_rfl) (fun _ _ _ h => h) (Or.inl ⟨by rfl, ?_⟩) hS ?_
  rotate_left
  · intro w hSw; go_simp; first | done | with_reducible rfl
  try simp only [Act.put]
  refine wpAnyH_done (by kernel_rfl) ?_ _
  clear heq hu hi HR HB
  go_wp2
  go_returns
  exact ⟨rfl, hS.2⟩
end Go.Proofs.Ytciakfhjjnmeeaa
