/- Walk of package field: Times. Nothing that was there is turned. -/
import Derived.Test.YtciakfhjjnmeeaaFieldG
namespace Go.Proofs.Ytciakfhjjnmeeaa
open Go.RowKit Nt

set_option maxHeartbeats 2000000 in
set_option maxRecDepth 100000 in
theorem times_any (k x0 x1 x2 x3 x4 : Int) (n : F) (w : World) (hk : 0 ≤ k ∧ k < 4294967296) (hx : El x0 x1 x2 x3 x4 n) :
    Calls Try.prog 40 #[ev x0 x1 x2 x3 x4, .int .u32 k] w (ElemOut (n * Fin.ofNat P k.toNat) w) := by
  have R0 := new2_0 w (.cells #[.int .u64 x0, .int .u64 x1, .int .u64 x2, .int .u64 x3, .int .u64 x4] 26) (.cells #[.int .u64 0, .int .u64 0, .int .u64 0, .int .u64 0, .int .u64 0] 26)
  have R1 := new2_1 w (.cells #[.int .u64 x0, .int .u64 x1, .int .u64 x2, .int .u64 x3, .int .u64 x4] 26) (.cells #[.int .u64 0, .int .u64 0, .int .u64 0, .int .u64 0, .int .u64 0] 26)
  have B0 : Below w.heap.size w ((w.alloc (.cells #[.int .u64 x0, .int .u64 x1, .int .u64 x2, .int .u64 x3, .int .u64 x4] 26)).alloc (.cells #[.int .u64 0, .int .u64 0, .int .u64 0, .int .u64 0, .int .u64 0] 26)) := by go_grown
  go_enter Try.func40, Try.ntmps40
  go_wp2_with fail
  generalize (w.alloc (.cells #[.int .u64 x0, .int .u64 x1, .int .u64 x2, .int .u64 x3, .int .u64 x4] 26)).alloc (.cells #[.int .u64 0, .int .u64 0, .int .u64 0, .int .u64 0, .int .u64 0] 26) = W at *
  refine wp_region_held_drew (S := (fun w' => w'.heap[w.heap.size]? = some (.cells #[.int .u64 x0, .int .u64 x1, .int .u64 x2, .int .u64 x3, .int .u64 x4] 26 (0, 0)) ∧ (∃ c1, w'.heap[w.heap.size + 1]? = some (.cells c1 26 (0, 0)) ∧ c1.size = 5) ∧ Below w.heap.size w w')) (by kernel_rfl) ⟨R0, ⟨_, R1, rfl⟩, B0.drew⟩ (fun hS => ?_)
  clear R0 R1 B0
  refine wpAnyH_take (i := 0) (oi := ⟨some 5, _, _, _, _, _⟩) rfl (by kernel_rfl) (by kernel_rfl) (by kernel_rfl) (fun _ _ _ h => h) (yieldsIf_row (by rfl) _ _ rfl _ (by rfl) _ _ (fun _ h => h.1) 5 tElem (by rfl)) hS ?_
  try simp only [Act.put]
  refine wpAnyH_take (i := 1) (oi := ⟨some 6, _, _, _, _, _⟩) (v := ?_) rfl (by kernel_rfl) (by kernel_rfl) (by kernel_rfl) (fun _ _ _ h => h) (Or.inl ⟨by rfl, ?_⟩) hS ?_
  rotate_left
  · intro w hSw; go_simp; first | done | with_reducible rfl
  try simp only [Act.put]
  refine wpAnyH_take (i := 2) (oi := ⟨some 7, _, _, _, _, _⟩) (v := ?_) rfl (by kernel_rfl) (by kernel_rfl) (by kernel_rfl) (fun _ _ _ h => h) (Or.inl ⟨by rfl, ?_⟩) hS ?_
  rotate_left
  · intro w hSw; go_simp; first | done | with_reducible rfl
  try simp only [Act.put]
  refine wpAnyH_ready (rs := [3]) (by kernel_rfl) (by simp) (AllReadyH.cons (o := ⟨some 8, _, _, _, _, _⟩) rfl (fun K hK => ?_) AllReadyH.nil)
  go_simp
  rw [wrap_small k hk.1 (by omega)]
  refine (small_any k _ hk.1 (by omega)).mono ?_
  rintro e w' ⟨z0, z1, z2, z3, z4, rfl, hz, hbz⟩
  refine hK.out _ _ ⟨row_call hbz hS.1, (hS.2.1).elim (fun c h => ⟨c, row_call hbz h.1, h.2⟩), below_call hbz hS.2.2⟩ (fun hS => ?_)
  clear hK K
  try simp only [Act.put]
  refine wpAnyH_ready (rs := [4]) (by kernel_rfl) (by simp) (AllReadyH.cons (o := ⟨some 9, _, _, _, _, _⟩) rfl (fun K hK => ?_) AllReadyH.nil)
  go_simp
  refine (mul_any _ _ _ _ _ _ _ _ _ _ _ _ _ hx hz).mono ?_
  rintro e w' ⟨o0, o1, o2, o3, o4, rfl, ho, hbz⟩
  refine hK.out _ _ ⟨row_call hbz hS.1, (hS.2.1).elim (fun c h => ⟨c, row_call hbz h.1, h.2⟩), below_call hbz hS.2.2⟩ (fun hS => ?_)
  clear hK K
  try simp only [Act.put]
  obtain ⟨R0, ⟨c1, R1, s1⟩, B0⟩ := hS
  refine wpAnyH_ready (rs := [5]) (by kernel_rfl) (by simp) (AllReadyH.cons (o := ⟨none, _, _, _, _, _⟩) rfl (fun K hK => ?_) AllReadyH.nil)
  rw [if_pos (by rfl)]
  refine wp_st_row _ _ _ rfl _ #[.int .u64 o0, .int .u64 o1, .int .u64 o2, .int .u64 o3, .int .u64 o4] (by rfl) (by rfl) _ _ R1 5 tElem (by rfl) s1 (ev_one ..) ?_
  refine hK.out _ _ ⟨row_put_other R0 (by omega), ⟨_, row_put R1, rfl⟩, below_setRow B0 (by omega) _⟩ (fun _ => ?_)
  clear hK K
  try simp only [Act.put]
  refine wpAnyH_done (by kernel_rfl) ?_ _
  go_wp2
  refine ret_row rfl _ _ _ rfl (row_put R1) 5 tElem (by rfl) rfl ?_
  exact ⟨_, _, _, _, _, rfl, ho, below_setRow B0 (by omega) _⟩
end Go.Proofs.Ytciakfhjjnmeeaa
