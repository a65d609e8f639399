/- A reader of bytes is made. Condition: there are bytes, and memory can hold them. -/
import Derived.Test.YtemkpihfenokmaaDoorCodC
namespace Go.Proofs.YtemkpihfenokmaaDoor
open Go.RowKit
section
variable {P : Program} {o : Oper} {w : World} {Q : Exit → Act → World → Prop}
theorem wp_copy_run {K : Act → World → Prop} {a : Act} {w' : World} {v u v' : Value} (x y : Operand) (t t' : TypeId) (ho : o.op = .call { callee := .builtin .copy, args := #[x, y], argTypes := #[t, t'] }) (hx : a.eval x = v) (hy : a.eval y = u)
    (hr : (Builtin.copy_ #[t, t'] o.type #[v, u]).run P w = .ok v' w') (h : K (a.put o.dst v') w') : o.wp P a w K Q := by
  unfold Oper.wp execOp
  simp only [ho, resolve, invoke, builtin, Sem.run_bind, Sem.run_pure, Result.andThen_ok, List.map_toArray, List.map_cons, List.map_nil, hx, hy, hr]
  exact h
end
theorem held_copy {P : Program} {ops : Array Oper} {rest : List Oper} {o : Oper} {Q : Exit → Act → World → Prop} {a : Act} {w : World} (args : Array Operand) (tys : Array TypeId) (_ : o.op = .call { callee := .builtin .copy, args := args, argTypes := tys }) (h : Held (wpList P ops Q (o :: rest) a w)) : wpList P ops Q (o :: rest) a w := h
theorem BytesIn.src {w : World} {a : Addr} {l : List Int} (h : BytesIn w (some a) l) : ∀ j v, (l.map (Value.int .u8))[j]? = some v → w.cell? (a.add j) = some v := fun j v hv => by
  have hj : j < l.length := by
    have := (List.getElem?_eq_some_iff.1 hv).1
    simpa using this
  obtain ⟨_, e, _, h3⟩ := h j hj
  injection e with e
  subst e
  rw [h3, ← hv, List.getElem?_map, List.getElem?_eq_getElem hj]
  simp [nth, List.getD, List.getElem?_eq_getElem hj]
/-- What make and copy lay: the bytes, a reader of them. -/
def NewReader (w : World) (l : List Int) (n : Nat) (e : Ending) (w' : World) : Prop := Below w.heap.size w w' ∧ ∃ g1 g2 t1 t2, e = .returned (.pointer (some ⟨g2, 0, none⟩)) ∧ g1 ≠ g2 ∧ w.heap.size ≤ g1 ∧ w.heap.size ≤ g2 ∧ w'.heap[g1]? = some (.cells (vals l) t1 (0, 0)) ∧ w'.heap[g2]? = some (.cells #[.slice (some ⟨g1, 0, none⟩) n n, .int .i64 0] t2 (0, 0))
end Go.Proofs.YtemkpihfenokmaaDoor
