/- Contracts of package field for answers that are yes; the law's own 'one'. Nothing that was there is turned. -/
import Derived.Test.YtciakfhjjnmeeaaFieldH
namespace Go.Proofs.Ytciakfhjjnmeeaa
open Go.RowKit Nt

theorem equal_yes (x0 x1 x2 x3 x4 y0 y1 y2 y3 y4 : Int) (n m : F) (w : World) (hx : El x0 x1 x2 x3 x4 n) (hy : El y0 y1 y2 y3 y4 m) (h : n = m) :
    Calls Try.prog 25 #[ev x0 x1 x2 x3 x4, ev y0 y1 y2 y3 y4] w fun e w' => e = .returned (.int .u64 18446744073709551615) ∧ Below w.heap.size w w' :=
  (equal_any _ _ _ _ _ _ _ _ _ _ n m w hx hy).mono fun _ _ ⟨h1, h2⟩ => ⟨by rw [h1, decide_eq_true h]; rfl, h2⟩
theorem equal_no (x0 x1 x2 x3 x4 y0 y1 y2 y3 y4 : Int) (n m : F) (w : World) (hx : El x0 x1 x2 x3 x4 n) (hy : El y0 y1 y2 y3 y4 m) (h : ¬ n = m) :
    Calls Try.prog 25 #[ev x0 x1 x2 x3 x4, ev y0 y1 y2 y3 y4] w fun e w' => e = .returned (.int .u64 0) ∧ Below w.heap.size w w' :=
  (equal_any _ _ _ _ _ _ _ _ _ _ n m w hx hy).mono fun _ _ ⟨h1, h2⟩ => ⟨by rw [h1, decide_eq_false h]; rfl, h2⟩
theorem zero_yes (x0 x1 x2 x3 x4 : Int) (n : F) (w : World) (hx : El x0 x1 x2 x3 x4 n) (h : n = 0) :
    Calls Try.prog 28 #[ev x0 x1 x2 x3 x4] w fun e w' => e = .returned (.int .u64 18446744073709551615) ∧ Below w.heap.size w w' :=
  (zero_any _ _ _ _ _ n w hx).mono fun _ _ ⟨h1, h2⟩ => ⟨by rw [h1, decide_eq_true h]; rfl, h2⟩
theorem zero_no (x0 x1 x2 x3 x4 : Int) (n : F) (w : World) (hx : El x0 x1 x2 x3 x4 n) (h : ¬ n = 0) :
    Calls Try.prog 28 #[ev x0 x1 x2 x3 x4] w fun e w' => e = .returned (.int .u64 0) ∧ Below w.heap.size w w' :=
  (zero_any _ _ _ _ _ n w hx).mono fun _ _ ⟨h1, h2⟩ => ⟨by rw [h1, decide_eq_false h]; rfl, h2⟩
theorem small_lit (k : Nat) (w : World) (h : k < 18446744073709551616) : Calls Try.prog 22 #[.int .u64 k] w (ElemOut (Fin.ofNat P k) w) :=
  small_any k w (by omega) (by omega)

theorem eq_bytes (V : Nat) (w : World) : (Op.equalIn 10000 22 (.agg (vals (bytesN V))) (.agg (vals (bytesN V)))).run Try.prog w = .ok true w := by
  have h := run_equalIn_vals (P := Try.prog) w .u8 9998 22 5 32 Try.underlying22 Try.underlying5 (fun w => by kernel_rfl) (bytesN V) (bytesN V) (bytesN_len _) (bytesN_len _)
  rw [decide_eq_true rfl] at h
  exact h

set_option maxHeartbeats 1000000 in
set_option maxRecDepth 100000 in
/-- Two numbers that are one are told to be so. -/
theorem one_yes (x0 x1 x2 x3 x4 y0 y1 y2 y3 y4 : Int) (n m : F) (w : World) (hx : El x0 x1 x2 x3 x4 n) (hy : El y0 y1 y2 y3 y4 m) (hnm : n = m) :
    Calls Try.prog 27 #[ev x0 x1 x2 x3 x4, ev y0 y1 y2 y3 y4] w fun e w' => e = .returned (.bool true) ∧ Below w.heap.size w w' := by
  subst hnm
  have heq := fun w => eq_bytes n.val w
  have R0 := new2_0 w (.cells #[.int .u64 x0, .int .u64 x1, .int .u64 x2, .int .u64 x3, .int .u64 x4] 26) (.cells #[.int .u64 y0, .int .u64 y1, .int .u64 y2, .int .u64 y3, .int .u64 y4] 26)
  have R1 := new2_1 w (.cells #[.int .u64 x0, .int .u64 x1, .int .u64 x2, .int .u64 x3, .int .u64 x4] 26) (.cells #[.int .u64 y0, .int .u64 y1, .int .u64 y2, .int .u64 y3, .int .u64 y4] 26)
  have B0 : Below w.heap.size w ((w.alloc (.cells #[.int .u64 x0, .int .u64 x1, .int .u64 x2, .int .u64 x3, .int .u64 x4] 26)).alloc (.cells #[.int .u64 y0, .int .u64 y1, .int .u64 y2, .int .u64 y3, .int .u64 y4] 26)) := by go_grown
  go_enter Try.func27, Try.ntmps27
  go_wp2_with fail
  generalize (w.alloc (.cells #[.int .u64 x0, .int .u64 x1, .int .u64 x2, .int .u64 x3, .int .u64 x4] 26)).alloc (.cells #[.int .u64 y0, .int .u64 y1, .int .u64 y2, .int .u64 y3, .int .u64 y4] 26) = W at *
  refine wp_region_held_drew (S := (fun w' => w'.heap[w.heap.size]? = some (.cells #[.int .u64 x0, .int .u64 x1, .int .u64 x2, .int .u64 x3, .int .u64 x4] 26 (0, 0)) ∧ w'.heap[w.heap.size + 1]? = some (.cells #[.int .u64 y0, .int .u64 y1, .int .u64 y2, .int .u64 y3, .int .u64 y4] 26 (0, 0)) ∧ Below w.heap.size w w')) (by kernel_rfl) ⟨R0, R1, B0.drew⟩ (fun hS => ?_)
  clear R0 R1 B0
  refine wpAnyH_take (i := 0) (oi := ⟨some 5, _, _, _, _, _⟩) rfl (by kernel_rfl) (by kernel_rfl) (by kernel_rfl) (fun _ _ _ h => h) (yieldsIf_row (by rfl) _ _ rfl _ (by rfl) _ _ (fun _ h => h.1) 5 tElem (by rfl)) hS ?_
  try simp only [Act.put]
  refine wpAnyH_take (i := 1) (oi := ⟨some 6, _, _, _, _, _⟩) rfl (by kernel_rfl) (by kernel_rfl) (by kernel_rfl) (fun _ _ _ h => h) (yieldsIf_row (by rfl) _ _ rfl _ (by rfl) _ _ (fun _ h => h.2.1) 5 tElem (by rfl)) hS ?_
  try simp only [Act.put]
  refine wpAnyH_ready (rs := [2]) (by kernel_rfl) (by simp) (AllReadyH.cons (o := ⟨some 7, _, _, _, _, _⟩) rfl (fun K hK => ?_) AllReadyH.nil)
  go_simp
  refine (equal_yes _ _ _ _ _ _ _ _ _ _ _ _ _ hx hy rfl).mono ?_
  rintro e w' ⟨rfl, hbz⟩
  refine hK.out _ _ ⟨row_call hbz hS.1, row_call hbz hS.2.1, below_call hbz hS.2.2⟩ (fun hS => ?_)
  clear hK K
  try simp only [Act.put]
  refine wpAnyH_take (i := 3) (oi := ⟨some 8, _, _, _, _, _⟩) (v := ?_) rfl (by kernel_rfl) (by kernel_rfl) (by kernel_rfl) (fun _ _ _ h => h) (Or.inl ⟨by rfl, ?_⟩) hS ?_
  rotate_left
  · intro w hSw; go_simp; first | done | with_reducible rfl
  try simp only [Act.put]
  refine wpAnyH_take (i := 4) (oi := ⟨some 9, _, _, _, _, _⟩) (v := ?_) rfl (by kernel_rfl) (by kernel_rfl) (by kernel_rfl) (fun _ _ _ h => h) (Or.inl ⟨by rfl, ?_⟩) hS ?_
  rotate_left
  · intro w hSw; go_simp; first | done | with_reducible rfl
  try simp only [Act.put]
  refine wpAnyH_take (i := 5) (oi := ⟨some 10, _, _, _, _, _⟩) rfl (by kernel_rfl) (by kernel_rfl) (by kernel_rfl) (fun _ _ _ h => h) (yieldsIf_row (by rfl) _ _ rfl _ (by rfl) _ _ (fun _ h => h.1) 5 tElem (by rfl)) hS ?_
  try simp only [Act.put]
  refine wpAnyH_take (i := 7) (oi := ⟨some 12, _, _, _, _, _⟩) rfl (by kernel_rfl) (by kernel_rfl) (by kernel_rfl) (fun _ _ _ h => h) (yieldsIf_row (by rfl) _ _ rfl _ (by rfl) _ _ (fun _ h => h.2.1) 5 tElem (by rfl)) hS ?_
  try simp only [Act.put]
  refine wpAnyH_ready (rs := [6]) (by kernel_rfl) (by simp) (AllReadyH.cons (o := ⟨some 11, _, _, _, _, _⟩) rfl (fun K hK => ?_) AllReadyH.nil)
  go_simp
  refine (bytes_any _ _ _ _ _ _ _ hx).mono ?_
  rintro e w' ⟨rfl, hbz⟩
  refine hK.out _ _ ⟨row_call hbz hS.1, row_call hbz hS.2.1, below_call hbz hS.2.2⟩ (fun hS => ?_)
  clear hK K
  try simp only [Act.put]
  refine wpAnyH_ready (rs := [8]) (by kernel_rfl) (by simp) (AllReadyH.cons (o := ⟨some 13, _, _, _, _, _⟩) rfl (fun K hK => ?_) AllReadyH.nil)
  go_simp
  refine (bytes_any _ _ _ _ _ _ _ hy).mono ?_
  rintro e w' ⟨rfl, hbz⟩
  refine hK.out _ _ ⟨row_call hbz hS.1, row_call hbz hS.2.1, below_call hbz hS.2.2⟩ (fun hS => ?_)
  clear hK K
  try simp only [Act.put]
  refine wpAnyH_take (i := 9) (oi := ⟨some 14, _, _, _, _, _⟩) (v := ?_) rfl (by kernel_rfl) (by kernel_rfl) (by kernel_rfl) (fun _ _ _ h => h) (Or.inl ⟨by rfl, ?_⟩) hS ?_
  rotate_left
  · intro w hSw; go_simp; first | done | with_reducible rfl
  try simp only [Act.put]
  refine wpAnyH_take (i := 10) (oi := ⟨some 15, _, _, _, _, _⟩) (v := ?_) rfl (by kernel_rfl) (by kernel_rfl) (by kernel_rfl) (fun _ _ _ h => h) (Or.inl ⟨by rfl, ?_⟩) hS ?_
  rotate_left
  · intro w hSw; go_simp; first | done | with_reducible rfl
  try simp only [Act.put]
  refine wpAnyH_take (i := 11) (oi := ⟨some 4, _, _, _, _, _⟩) (v := ?_) rfl (by kernel_rfl) (by kernel_rfl) (by kernel_rfl) (fun _ _ _ h => h) (Or.inl ⟨by rfl, ?_⟩) hS ?_
  rotate_left
  · intro w hSw; go_simp; first | done | with_reducible rfl
  try simp only [Act.put]
  refine wpAnyH_done (by kernel_rfl) ?_ _
  clear heq
  go_wp2
  go_returns
  exact ⟨rfl, hS.2.2⟩
end Go.Proofs.Ytciakfhjjnmeeaa
