/- Reads of words of a slice, for regions met operation by operation. -/
import Derived.Test.YtciakfhjjnmeeaaOpsG
import Derived.Test.YtciakfhjjnmeeaaOps5
namespace Go.Proofs.Ytciakfhjjnmeeaa
open Go.RowKit Nt

/-- At block g lie the words of the list. -/
def WordsAt (l : List Int) (g : Nat) (w : World) : Prop := ∃ t, w.heap[g]? = some (.cells (valsK .u64 l) t (0, 0))
theorem WordsAt.keep {l : List Int} {g : Nat} {w w' : World} (h : WordsAt l g w) (hb : Below w.heap.size w w') : WordsAt l g w' := by
  obtain ⟨t, h1⟩ := h; exact ⟨t, row_call hb h1⟩
theorem WordsAt.lt {l : List Int} {g : Nat} {w : World} (h : WordsAt l g w) : g < w.heap.size := by
  obtain ⟨t, h⟩ := h; exact row_lt h
theorem WordsAt.of_eq {l : List Int} {g : Nat} {w w' : World} (h : WordsAt l g w) (e : w'.heap[g]? = w.heap[g]?) : WordsAt l g w' := by
  obtain ⟨t, h1⟩ := h; exact ⟨t, e.trans h1⟩
theorem WordsAt.under {l : List Int} {g B : Nat} {w w' : World} (h : WordsAt l g w) (hb : Below B w w') (hg : g < B) : WordsAt l g w' := h.of_eq (hb.block g hg)

theorem idx0 (g : Nat) (w : World) : ((do let z ← Instr.indexAt 45 (.slice (some ⟨g, 0, none⟩) 4 4) (.int .i64 0); pure (Next.value z)) : Sem Next).run Try.prog w = .ok (.value (.pointer (some ⟨g, 0, none⟩))) w := by kernel_rfl
theorem idx1 (g : Nat) (w : World) : ((do let z ← Instr.indexAt 45 (.slice (some ⟨g, 0, none⟩) 4 4) (.int .i64 1); pure (Next.value z)) : Sem Next).run Try.prog w = .ok (.value (.pointer (some ⟨g, 1, none⟩))) w := by kernel_rfl
theorem idx2 (g : Nat) (w : World) : ((do let z ← Instr.indexAt 45 (.slice (some ⟨g, 0, none⟩) 4 4) (.int .i64 2); pure (Next.value z)) : Sem Next).run Try.prog w = .ok (.value (.pointer (some ⟨g, 2, none⟩))) w := by kernel_rfl
theorem idx3 (g : Nat) (w : World) : ((do let z ← Instr.indexAt 45 (.slice (some ⟨g, 0, none⟩) 4 4) (.int .i64 3); pure (Next.value z)) : Sem Next).run Try.prog w = .ok (.value (.pointer (some ⟨g, 3, none⟩))) w := by kernel_rfl
theorem idx_run (g k : Nat) (hk : k < 4) (w : World) : ((do let z ← Instr.indexAt 45 (.slice (some ⟨g, 0, none⟩) 4 4) (.int .i64 k); pure (Next.value z)) : Sem Next).run Try.prog w = .ok (.value (.pointer (some ⟨g, k, none⟩))) w := by
  have h : k = 0 ∨ k = 1 ∨ k = 2 ∨ k = 3 := by omega
  rcases h with h | h | h | h
  · subst h; exact idx0 g w
  · subst h; exact idx1 g w
  · subst h; exact idx2 g w
  · subst h; exact idx3 g w

section
variable {o : Oper} {a : Act} {w : World} {Q : Exit → Act → World → Prop} {d : Nat} {K : Act → World → Prop} {l : List Int}
theorem op_word (x : Operand) (ho : o.op = .load 23 x) (hd : o.dst = some d) (g i : Nat) (hx : a.eval x = .pointer (some ⟨g, i, none⟩)) (h : WordsAt l g w) (hi : i < l.length) (v : Int) (hv : nth l i = v)
    (hK : ∀ x w', x = .int .u64 v → Below w.heap.size w w' → K (a.put (some d) x) w') : o.wp Try.prog a w K Q := by
  subst hv
  obtain ⟨t, h1⟩ := h
  have c := (row_cell h1 i).trans (valsK_get hi)
  refine op_val (V := (· = .int .u64 (nth l i))) (.int .u64 (nth l i)) hd ?_ rfl hK
  unfold execOp; rw [ho]
  show ((do let z ← Instr.loadAt 23 (a.eval x); pure (Next.value z)) : Sem Next).run Try.prog w = _
  rw [hx]
  go_simp
theorem op_word4 (x y : Operand) (ho : o.op = .indexAddr 45 x y) (hd : o.dst = some d) (g k : Nat) (hk : k < 4) (hx : a.eval x = .slice (some ⟨g, 0, none⟩) 4 4) (hy : a.eval y = .int .i64 k)
    (hK : ∀ x w', x = .pointer (some ⟨g, k, none⟩) → Below w.heap.size w w' → K (a.put (some d) x) w') : o.wp Try.prog a w K Q := by
  refine op_val (V := (· = .pointer (some ⟨g, k, none⟩))) (.pointer (some ⟨g, k, none⟩)) hd ?_ rfl hK
  unfold execOp; rw [ho]
  show ((do let z ← Instr.indexAt 45 (a.eval x) (a.eval y); pure (Next.value z)) : Sem Next).run Try.prog w = _
  rw [hx, hy]
  exact idx_run g k hk w
theorem rem_two {p q : Operand} (v r : Int) (h0 : 0 ≤ v) (h : v % 2 = r) (w : World) : (do eqGuard .rem 23 p q (.int .u64 v) (.int .u64 2); binOp .rem 23 (.int .u64 v) (.int .u64 2) : Sem Value).run Try.prog w = .ok (.int .u64 r) w := by
  have e : v.tmod 2 = r := by rw [Int.tmod_eq_emod_of_nonneg h0]; exact h
  subst e
  rfl
end
theorem rem_40 {p q : Operand} (m : Nat) (w : World) : (do eqGuard .rem 23 p q (.int .u64 m) (.int .u64 40); binOp .rem 23 (.int .u64 m) (.int .u64 40) : Sem Value).run Try.prog w = .ok (.int .u64 ((m % 40 : Nat) : Int)) w := by
  have e : ((m : Int)).tmod 40 = ((m % 40 : Nat) : Int) := by rw [Int.tmod_eq_emod_of_nonneg (Int.natCast_nonneg _)]; omega
  rw [← e]
  rfl
theorem rem_4294967296 {p q : Operand} (m : Nat) (w : World) : (do eqGuard .rem 23 p q (.int .u64 m) (.int .u64 4294967296); binOp .rem 23 (.int .u64 m) (.int .u64 4294967296) : Sem Value).run Try.prog w = .ok (.int .u64 ((m % 4294967296 : Nat) : Int)) w := by
  have e : ((m : Int)).tmod 4294967296 = ((m % 4294967296 : Nat) : Int) := by rw [Int.tmod_eq_emod_of_nonneg (Int.natCast_nonneg _)]; omega
  rw [← e]
  rfl
theorem conv_u32 (v r : Int) (h : IntKind.u32.wrap v = r) (w : World) : (convert 23 50 (.int .u64 v)).run Try.prog w = .ok (.int .u32 r) w := by
  subst h; kernel_rfl
theorem op_conv {o : Oper} {a : Act} {w : World} {Q : Exit → Act → World → Prop} {d : Nat} {K : Act → World → Prop} (x : Operand) (v r : Int) (ho : o.op = .convert 23 50 x) (hd : o.dst = some d) (hx : a.eval x = .int .u64 v) (h : IntKind.u32.wrap v = r)
    (hK : ∀ x w', x = .int .u32 r → Below w.heap.size w w' → K (a.put (some d) x) w') : o.wp Try.prog a w K Q := by
  refine op_val (V := (· = .int .u32 r)) (.int .u32 r) hd ?_ rfl hK
  unfold execOp; rw [ho]
  show ((do let z ← convert 23 50 (a.eval x); pure (Next.value z)) : Sem Next).run Try.prog w = _
  rw [hx, Sem.run_bind, conv_u32 v r h w]
  rfl
theorem el_row {n : F} {x : Value} (h : IsEl n x) : ∃ cs, x = .agg cs ∧ cs.size = 5 ∧ cs.all (·.oneCell') = true := by
  obtain ⟨z0, z1, z2, z3, z4, rfl, _⟩ := h
  exact ⟨_, rfl, rfl, ev_one ..⟩
theorem ptr_inj {a b : Nat} (h : some (Value.pointer (some ⟨a, 0, none⟩)) = some (Value.pointer (some ⟨b, 0, none⟩))) : a = b := by
  injection h with h; injection h with h; injection h with h; injection h
theorem el_stored {n : F} {x : Value} {cs : Array Value} {g : Nat} {t : TypeId} {w : World} (h : IsEl n x) (e : some x = some (.agg cs)) (hr : w.heap[g]? = some (.cells cs t (0, 0))) : ElAt n g w := by
  injection e with e; subst e
  obtain ⟨cs', e1, e2, _⟩ := el_row h
  injection e1 with e1; subst e1
  exact ⟨_, t, hr, e2, h⟩
theorem if_guard_un {o : Oper} {ops : Array Oper} {t : Array Value} {j d : Nat} {b : Bool} {p q : Prop} (h : o.guard = some (j, b)) (hd : (ops[j]?).bind (·.dst) = some d) (ht : t[d]? = some undef) (hq : q) : if Region.wanted o (yielded ops t) = true then p else q := by
  have hy : yielded ops t j = none := by unfold yielded; rw [hd]; simp [ht, undef]
  rw [if_neg (by simp [Region.wanted, h, hy])]; exact hq
end Go.Proofs.Ytciakfhjjnmeeaa
