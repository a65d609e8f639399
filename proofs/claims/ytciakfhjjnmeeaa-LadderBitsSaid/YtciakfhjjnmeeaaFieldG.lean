/- Walks of package field: Swap, Times. Nothing that was there is turned. -/
import Derived.Test.YtciakfhjjnmeeaaFieldF
import Derived.Test.YtciakfhjjnmeeaaReg
namespace Go.Proofs.Ytciakfhjjnmeeaa
open Go.RowKit Nt

/-- Two Elems handed back. -/
def ElemOut2 (n m : F) (w : World) (e : Ending) (w' : World) : Prop :=
  ∃ z0 z1 z2 z3 z4 u0 u1 u2 u3 u4 : Int, e = .returned (.tuple #[ev z0 z1 z2 z3 z4, ev u0 u1 u2 u3 u4]) ∧ El z0 z1 z2 z3 z4 n ∧ El u0 u1 u2 u3 u4 m ∧ Below w.heap.size w w'

set_option maxHeartbeats 2000000 in
set_option maxRecDepth 100000 in
theorem swap_any (b : Bool) (m x0 x1 x2 x3 x4 y0 y1 y2 y3 y4 : Int) (nx ny : F) (w : World) (hm : 0 ≤ m ∧ m < 18446744073709551616) (hb : decide (m % 2 = 1) = b) (hx : El x0 x1 x2 x3 x4 nx) (hy : El y0 y1 y2 y3 y4 ny) :
    Calls Try.prog 38 #[.int .u64 m, ev x0 x1 x2 x3 x4, ev y0 y1 y2 y3 y4] w (ElemOut2 (selF b ny nx) (selF b nx ny) w) := by
  have HB := Lib.hid hb
  have HM := Lib.hid hm
  clear hb hm
  have R0 := new4_0 w (.cells #[.int .u64 x0, .int .u64 x1, .int .u64 x2, .int .u64 x3, .int .u64 x4] 26) (.cells #[.int .u64 y0, .int .u64 y1, .int .u64 y2, .int .u64 y3, .int .u64 y4] 26) (.cells #[.int .u64 0, .int .u64 0, .int .u64 0, .int .u64 0, .int .u64 0] 26) (.cells #[.int .u64 0, .int .u64 0, .int .u64 0, .int .u64 0, .int .u64 0] 26)
  have R1 := new4_1 w (.cells #[.int .u64 x0, .int .u64 x1, .int .u64 x2, .int .u64 x3, .int .u64 x4] 26) (.cells #[.int .u64 y0, .int .u64 y1, .int .u64 y2, .int .u64 y3, .int .u64 y4] 26) (.cells #[.int .u64 0, .int .u64 0, .int .u64 0, .int .u64 0, .int .u64 0] 26) (.cells #[.int .u64 0, .int .u64 0, .int .u64 0, .int .u64 0, .int .u64 0] 26)
  have R2 := new4_2 w (.cells #[.int .u64 x0, .int .u64 x1, .int .u64 x2, .int .u64 x3, .int .u64 x4] 26) (.cells #[.int .u64 y0, .int .u64 y1, .int .u64 y2, .int .u64 y3, .int .u64 y4] 26) (.cells #[.int .u64 0, .int .u64 0, .int .u64 0, .int .u64 0, .int .u64 0] 26) (.cells #[.int .u64 0, .int .u64 0, .int .u64 0, .int .u64 0, .int .u64 0] 26)
  have R3 := new4_3 w (.cells #[.int .u64 x0, .int .u64 x1, .int .u64 x2, .int .u64 x3, .int .u64 x4] 26) (.cells #[.int .u64 y0, .int .u64 y1, .int .u64 y2, .int .u64 y3, .int .u64 y4] 26) (.cells #[.int .u64 0, .int .u64 0, .int .u64 0, .int .u64 0, .int .u64 0] 26) (.cells #[.int .u64 0, .int .u64 0, .int .u64 0, .int .u64 0, .int .u64 0] 26)
  have B0 : Below w.heap.size w ((((w.alloc (.cells #[.int .u64 x0, .int .u64 x1, .int .u64 x2, .int .u64 x3, .int .u64 x4] 26)).alloc (.cells #[.int .u64 y0, .int .u64 y1, .int .u64 y2, .int .u64 y3, .int .u64 y4] 26)).alloc (.cells #[.int .u64 0, .int .u64 0, .int .u64 0, .int .u64 0, .int .u64 0] 26)).alloc (.cells #[.int .u64 0, .int .u64 0, .int .u64 0, .int .u64 0, .int .u64 0] 26)) := by go_grown
  go_enter Try.func38, Try.ntmps38
  go_wp2_with fail
  generalize (((w.alloc (.cells #[.int .u64 x0, .int .u64 x1, .int .u64 x2, .int .u64 x3, .int .u64 x4] 26)).alloc (.cells #[.int .u64 y0, .int .u64 y1, .int .u64 y2, .int .u64 y3, .int .u64 y4] 26)).alloc (.cells #[.int .u64 0, .int .u64 0, .int .u64 0, .int .u64 0, .int .u64 0] 26)).alloc (.cells #[.int .u64 0, .int .u64 0, .int .u64 0, .int .u64 0, .int .u64 0] 26) = W at *
  refine wp_region_held_drew (S := (fun w' => w'.heap[w.heap.size]? = some (.cells #[.int .u64 x0, .int .u64 x1, .int .u64 x2, .int .u64 x3, .int .u64 x4] 26 (0, 0)) ∧ w'.heap[w.heap.size + 1]? = some (.cells #[.int .u64 y0, .int .u64 y1, .int .u64 y2, .int .u64 y3, .int .u64 y4] 26 (0, 0)) ∧ (∃ c2, w'.heap[w.heap.size + 2]? = some (.cells c2 26 (0, 0)) ∧ c2.size = 5) ∧ (∃ c3, w'.heap[w.heap.size + 3]? = some (.cells c3 26 (0, 0)) ∧ c3.size = 5) ∧ Below w.heap.size w w')) (by kernel_rfl) ⟨R0, R1, ⟨_, R2, rfl⟩, ⟨_, R3, rfl⟩, B0.drew⟩ (fun hS => ?_)
  clear R0 R1 R2 R3 B0
  refine wpAnyH_take (i := 0) (oi := ⟨some 8, _, _, _, _, _⟩) (v := ?_) rfl (by kernel_rfl) (by kernel_rfl) (by kernel_rfl) (fun _ _ _ h => h) (Or.inl ⟨by rfl, ?_⟩) hS ?_
  rotate_left
  · intro w hSw; go_simp; first | done | with_reducible rfl
  try simp only [Act.put]
  refine wpAnyH_take (i := 1) (oi := ⟨some 9, _, _, _, _, _⟩) rfl (by kernel_rfl) (by kernel_rfl) (by kernel_rfl) (fun _ _ _ h => h) (yieldsIf_row (by rfl) _ _ rfl _ (by rfl) _ _ (fun _ h => h.2.1) 5 tElem (by rfl)) hS ?_
  try simp only [Act.put]
  refine wpAnyH_take (i := 2) (oi := ⟨some 10, _, _, _, _, _⟩) rfl (by kernel_rfl) (by kernel_rfl) (by kernel_rfl) (fun _ _ _ h => h) (yieldsIf_row (by rfl) _ _ rfl _ (by rfl) _ _ (fun _ h => h.1) 5 tElem (by rfl)) hS ?_
  try simp only [Act.put]
  refine wpAnyH_take (i := 4) (oi := ⟨some 12, _, _, _, _, _⟩) (v := ?_) rfl (by kernel_rfl) (by kernel_rfl) (by kernel_rfl) (fun _ _ _ h => h) (Or.inl ⟨by rfl, ?_⟩) hS ?_
  rotate_left
  · intro w hSw; go_simp; first | done | with_reducible rfl
  try simp only [Act.put]
  refine wpAnyH_take (i := 5) (oi := ⟨some 13, _, _, _, _, _⟩) rfl (by kernel_rfl) (by kernel_rfl) (by kernel_rfl) (fun _ _ _ h => h) (yieldsIf_row (by rfl) _ _ rfl _ (by rfl) _ _ (fun _ h => h.1) 5 tElem (by rfl)) hS ?_
  try simp only [Act.put]
  refine wpAnyH_take (i := 6) (oi := ⟨some 14, _, _, _, _, _⟩) rfl (by kernel_rfl) (by kernel_rfl) (by kernel_rfl) (fun _ _ _ h => h) (yieldsIf_row (by rfl) _ _ rfl _ (by rfl) _ _ (fun _ h => h.2.1) 5 tElem (by rfl)) hS ?_
  try simp only [Act.put]
  refine wpAnyH_ready (rs := [3]) (by kernel_rfl) (by simp) (AllReadyH.cons (o := ⟨some 11, _, _, _, _, _⟩) rfl (fun K hK => ?_) AllReadyH.nil)
  go_simp
  refine (pick_any b m _ _ _ _ _ _ _ _ _ _ _ _ _ HM.out HB.out hy hx).mono ?_
  rintro e w' ⟨z0, z1, z2, z3, z4, rfl, hz, hbz⟩
  refine hK.out _ _ ⟨row_call hbz hS.1, row_call hbz hS.2.1, (hS.2.2.1).elim (fun c h => ⟨c, row_call hbz h.1, h.2⟩), (hS.2.2.2.1).elim (fun c h => ⟨c, row_call hbz h.1, h.2⟩), below_call hbz hS.2.2.2.2⟩ (fun hS => ?_)
  clear hK K
  try simp only [Act.put]
  refine wpAnyH_ready (rs := [7]) (by kernel_rfl) (by simp) (AllReadyH.cons (o := ⟨some 15, _, _, _, _, _⟩) rfl (fun K hK => ?_) AllReadyH.nil)
  go_simp
  refine (pick_any b m _ _ _ _ _ _ _ _ _ _ _ _ _ HM.out HB.out hx hy).mono ?_
  rintro e w' ⟨u0, u1, u2, u3, u4, rfl, hu, hbz⟩
  refine hK.out _ _ ⟨row_call hbz hS.1, row_call hbz hS.2.1, (hS.2.2.1).elim (fun c h => ⟨c, row_call hbz h.1, h.2⟩), (hS.2.2.2.1).elim (fun c h => ⟨c, row_call hbz h.1, h.2⟩), below_call hbz hS.2.2.2.2⟩ (fun hS => ?_)
  clear hK K
  try simp only [Act.put]
  obtain ⟨R0, R1, ⟨c2, R2, s2⟩, ⟨c3, R3, s3⟩, B0⟩ := hS
  refine wpAnyH_ready (rs := [8]) (by kernel_rfl) (by simp) (AllReadyH.cons (o := ⟨none, _, _, _, _, _⟩) rfl (fun K hK => ?_) AllReadyH.nil)
  rw [if_pos (by rfl)]
  refine wp_st_row _ _ _ rfl _ #[.int .u64 z0, .int .u64 z1, .int .u64 z2, .int .u64 z3, .int .u64 z4] (by rfl) (by rfl) _ _ R2 5 tElem (by rfl) s2 (ev_one ..) ?_
  refine hK.out _ _ ⟨row_put_other R0 (by omega), row_put_other R1 (by omega), ⟨_, row_put R2, rfl⟩, ⟨_, row_put_other R3 (by omega), s3⟩, below_setRow B0 (by omega) _⟩ (fun _ => ?_)
  clear hK K
  try simp only [Act.put]
  have R2' := row_put (cs' := #[.int .u64 z0, .int .u64 z1, .int .u64 z2, .int .u64 z3, .int .u64 z4]) R2
  have R3' := row_put_other (cs := #[.int .u64 z0, .int .u64 z1, .int .u64 z2, .int .u64 z3, .int .u64 z4]) R3 (by omega : w.heap.size + 3 ≠ w.heap.size + 2)
  have B1 := below_setRow B0 (by omega : w.heap.size ≤ w.heap.size + 2) #[.int .u64 z0, .int .u64 z1, .int .u64 z2, .int .u64 z3, .int .u64 z4]
  have R0' := row_put_other (cs := #[.int .u64 z0, .int .u64 z1, .int .u64 z2, .int .u64 z3, .int .u64 z4]) R0 (by omega : w.heap.size ≠ w.heap.size + 2)
  have R1' := row_put_other (cs := #[.int .u64 z0, .int .u64 z1, .int .u64 z2, .int .u64 z3, .int .u64 z4]) R1 (by omega : w.heap.size + 1 ≠ w.heap.size + 2)
  refine wpAnyH_ready (rs := [9]) (by kernel_rfl) (by simp) (AllReadyH.cons (o := ⟨none, _, _, _, _, _⟩) rfl (fun K hK => ?_) AllReadyH.nil)
  rw [if_pos (by rfl)]
  refine wp_st_row _ _ _ rfl _ #[.int .u64 u0, .int .u64 u1, .int .u64 u2, .int .u64 u3, .int .u64 u4] (by rfl) (by rfl) _ _ R3' 5 tElem (by rfl) s3 (ev_one ..) ?_
  refine hK.out _ _ ⟨row_put_other R0' (by omega), row_put_other R1' (by omega), ⟨_, row_put_other R2' (by omega), rfl⟩, ⟨_, row_put R3', rfl⟩, below_setRow B1 (by omega) _⟩ (fun _ => ?_)
  clear hK K
  try simp only [Act.put]
  refine wpAnyH_done (by kernel_rfl) ?_ _
  go_wp2
  refine ret_row2 rfl _ _ _ _ _ _ rfl (row_put_other R2' (by omega)) rfl (row_put R3') 5 5 tElem (by rfl) tElem (by rfl) rfl ?_
  exact ⟨_, _, _, _, _, _, _, _, _, _, rfl, hz, hu, below_setRow B1 (by omega) _⟩
end Go.Proofs.Ytciakfhjjnmeeaa
