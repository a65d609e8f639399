/- Steps of a drawn region's head: a call of one argument, a new row, a read of a whole row; all by what the operands stand for. Said over any program. -/
import Derived.Test.YtemkpihfenokmaaDoorHead
namespace Go.Proofs.YtemkpihfenokmaaDoor
open Go.RowKit
variable {P : Program}

theorem eval_tmp {a : Act} {t : Nat} {v : Value} (h : a.tmps[t]? = some v) : a.eval (.tmp t) = v := by
  show a.tmps.getD t undef = v
  rw [Array.getD_eq_getD_getElem?, h]; rfl

theorem wp_fn1 {o : Oper} {a : Act} {w : World} {K : Act → World → Prop} {Q : Exit → Act → World → Prop} (f : FuncId) (x : Operand) (tys : Array TypeId) (v : Value)
    (ho : o.op = .call { callee := .value (.func f), args := #[x], argTypes := tys }) (hx : a.eval x = v)
    (hf : ∀ (args : Array Value) (w : World), (callFunc f args).run P w = .ok (.enter f args) w) (h : Calls P f #[v] w fun e w' => ∃ r, e = .returned r ∧ K (a.put o.dst r) w') : o.wp P a w K Q := by
  subst hx
  have hrun : (execOp a.eval o).run P w = .ok (.enter f #[a.eval x]) w := by
    unfold execOp
    rw [ho]
    have h0 := hf #[a.eval x] w
    have e : a.eval (Operand.func f) = Value.func (.func f) #[] #[] := rfl
    generalize a.eval = ρ at *
    simp [resolve, Deferred.ofValue, invoke, e, h0]
  unfold Oper.wp
  rw [hrun, Oper.upon_enter]
  exact h.mono fun e w' ⟨r, h1, h2⟩ => by subst h1; exact h2

theorem wp_new {o : Oper} {a : Act} {w : World} {K : Act → World → Prop} {Q : Exit → Act → World → Prop} (t : TypeId) (cs : Array Value)
    (hrun : ∀ w, (execOp a.eval o).run P w = .ok (.value (.pointer (some ⟨w.heap.size, 0, none⟩))) (w.alloc (.cells cs t)))
    (h : K (a.put o.dst (.pointer (some ⟨w.heap.size, 0, none⟩))) (w.alloc (.cells cs t))) : o.wp P a w K Q := by
  unfold Oper.wp
  rw [hrun, Oper.upon_value]
  exact h

theorem slots_apart {n : Nat} {D : Nat → Nat} (h : ((List.range n).all fun i => (List.range n).all fun j => decide (j = i) || decide (D j ≠ D i)) = true) : ∀ i j, i < n → j < n → j ≠ i → D j ≠ D i := by
  intro i j hi hj hne
  rw [List.all_eq_true] at h
  have h1 := h i (List.mem_range.2 hi)
  rw [List.all_eq_true] at h1
  have h2 := h1 j (List.mem_range.2 hj)
  simpa [hne] using h2

theorem slots_lie {n m : Nat} {D : Nat → Nat} (h : ((List.range n).all fun i => decide (D i < m)) = true) : ∀ i, i < n → D i < m := by
  intro i hi
  rw [List.all_eq_true] at h
  simpa using h i (List.mem_range.2 hi)

theorem slots_not {n k : Nat} {D : Nat → Nat} (h : ((List.range n).all fun i => decide (D i ≠ k)) = true) : ∀ i, i < n → D i ≠ k := by
  intro i hi
  rw [List.all_eq_true] at h
  simpa using h i (List.mem_range.2 hi)
end Go.Proofs.YtemkpihfenokmaaDoor
