/- Two arrays of whole numbers are the same just where their lists are; ranges of cells that a call leaves alone. Said over any program. No condition. -/
import Derived.Test.YtemkpihfenokmaaDoorRow
import Derived.Test.YtemkpihfenokmaaDoorElem2
import Derived.Deep.RegionHeld3
namespace Go.Proofs.YtemkpihfenokmaaDoor
open Go.RowKit

theorem all_nth : ∀ (xs ys : List Int), xs.length = ys.length → ((List.range xs.length).all fun i => nth xs i == nth ys i) = decide (xs = ys)
  | [], [], _ => rfl
  | x :: xs, y :: ys, h => by
    have ih := all_nth xs ys (by simpa using h)
    rw [List.length_cons, List.range_succ_eq_map, List.all_cons, List.all_map]
    have e : ((fun i => nth (x :: xs) i == nth (y :: ys) i) ∘ Nat.succ) = fun i => nth xs i == nth ys i := by
      funext i; simp [nth]
    rw [e, ih]
    simp only [nth, List.getD_cons_zero, List.cons.injEq]
    by_cases h1 : x = y <;> simp [h1]
  | [], _ :: _, h => by simp at h
  | _ :: _, [], h => by simp at h

section
variable {P : Program} (w : World)
theorem run_equalIn_vals (k : IntKind) (d : Nat) (t e : TypeId) (n : Nat) (ht : P.underlying t = some (.array n e)) (he : P.underlying e = some (.int k)) (hsz : ∀ w, (sizeOf e).run P w = .ok 1 w)
    (xs ys : List Int) (hx : xs.length = n) (hy : ys.length = n) :
    (Op.equalIn (d + 2) t (.agg (valsK k xs)) (.agg (valsK k ys))).run P w = .ok (decide (xs = ys)) w := by
  rw [← all_nth xs ys (hx.trans hy.symm), hx, List.range_eq_range', Op.equalIn]
  simp only [Sem.run_bind, run_underlying ht, Result.andThen_ok, hsz, Std.Legacy.Range.forIn_eq_forIn_range', Std.Legacy.Range.size, Nat.sub_zero, Nat.add_sub_cancel, Nat.div_one]
  have hl : ∀ i ∈ List.range' 0 n 1, i < n := fun i hi => by simpa using (List.mem_range'_1.1 hi).2
  generalize List.range' 0 n 1 = l at hl ⊢
  induction l with
  | nil => simp
  | cons i l ih =>
    have hi : i < n := hl i (by simp)
    have px : (part e (valsK k xs) (i * 1)).run P w = .ok (.int k (nth xs i)) w := by
      simp [part, isAgg, run_underlying he, valsK_get (k := k) (show i < xs.length by omega)]
    have py : (part e (valsK k ys) (i * 1)).run P w = .ok (.int k (nth ys i)) w := by
      simp [part, isAgg, run_underlying he, valsK_get (k := k) (show i < ys.length by omega)]
    have pe : (Op.equalIn (d + 1) e (.int k (nth xs i)) (.int k (nth ys i))).run P w = .ok (nth xs i == nth ys i) w := run_equalIn_int w d e k k _ _ he
    simp only [List.forIn_cons, Sem.run_bind, px, py, pe, Result.andThen_ok, List.all_cons]
    cases hb : (nth xs i == nth ys i)
    · simp
    · simp only [Bool.not_true, Bool.false_eq_true, if_false, Sem.run_pure, Result.andThen_ok, Bool.true_and]
      exact ih fun j hj => hl j (by simp [hj])

/-- '==' of two arrays of whole numbers. -/
theorem run_eql_vals (k : IntKind) (t e : TypeId) (n : Nat) (ht : P.underlying t = some (.array n e)) (he : P.underlying e = some (.int k)) (hsz : ∀ w, (sizeOf e).run P w = .ok 1 w)
    (xs ys : List Int) (hx : xs.length = n) (hy : ys.length = n) : (binOp .eql t (.agg (valsK k xs)) (.agg (valsK k ys))).run P w = .ok (.bool (decide (xs = ys))) w := by
  rw [run_eql_struct, run_equalIn_vals w k 9998 t e n ht he hsz xs ys hx hy]
  rfl
/-- '!=' of two arrays of whole numbers. -/
theorem run_neq_vals (k : IntKind) (t e : TypeId) (n : Nat) (ht : P.underlying t = some (.array n e)) (he : P.underlying e = some (.int k)) (hsz : ∀ w, (sizeOf e).run P w = .ok 1 w)
    (xs ys : List Int) (hx : xs.length = n) (hy : ys.length = n) : (binOp .neq t (.agg (valsK k xs)) (.agg (valsK k ys))).run P w = .ok (.bool (!decide (xs = ys))) w := by
  rw [run_neq_struct, run_equalIn_vals w k 9998 t e n ht he hsz xs ys hx hy]
  rfl
end

/-- A range of cells that lies below the callee's blocks is as it was. -/
theorem range_keep {W w1 : World} {b o : Nat} {cs : List Value} (hb : Below W.heap.size W w1) (h : W.rangeAt b o cs) : w1.rangeAt b o cs := fun j v hv => by
  have h1 := h j v hv
  have hlt := block_lt_of_cell h1
  exact (hb.cell (p := ⟨b, o + j, none⟩) hlt).trans h1

theorem range_row {w : World} {g : Nat} {cs : Array Value} {t : TypeId} (h : w.heap[g]? = some (.cells cs t (0, 0))) : w.rangeAt g 0 cs.toList := fun j v hv => by
  rw [Nat.zero_add]
  refine (row_cell h j).trans ?_
  simpa using hv

/-- One call behind another. -/
theorem below_call {w W w1 : World} (h2 : Below W.heap.size W w1) (h1 : Below w.heap.size w W) : Below w.heap.size w w1 := h1.trans (h2.mono h1.size)

end Go.Proofs.YtemkpihfenokmaaDoor
