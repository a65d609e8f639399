/- Steps of one operation of a drawn region, by what its operands hold. Said over any program. -/
import Derived.Test.YtemkpihfenokmaaDoorOps
namespace Go.Proofs.YtemkpihfenokmaaDoor
open Go.RowKit
variable {P : Program}

theorem if_always {o : Oper} {y : Nat → Option Bool} {p q : Prop} (h : o.guard = none) (hp : p) : if Region.wanted o y = true then p else q := by
  rw [if_pos (by simp [Region.wanted, h])]; exact hp

theorem yielded_at {ops : Array Oper} {t : Array Value} {j d : Nat} {b : Bool} (hd : (ops[j]?).bind (·.dst) = some d) (ht : t[d]? = some (.bool b)) : yielded ops t j = some b := by
  unfold yielded; rw [hd]; simp [ht]

theorem if_guard {o : Oper} {ops : Array Oper} {t : Array Value} {j d : Nat} {b : Bool} {p q : Prop} (h : o.guard = some (j, b)) (hd : (ops[j]?).bind (·.dst) = some d) (ht : t[d]? = some (.bool b)) (hp : p) : if Region.wanted o (yielded ops t) = true then p else q := by
  rw [if_pos (by simp [Region.wanted, h, yielded_at hd ht])]; exact hp

theorem if_guard_off {o : Oper} {ops : Array Oper} {t : Array Value} {j d : Nat} {b c : Bool} {p q : Prop} (h : o.guard = some (j, b)) (hd : (ops[j]?).bind (·.dst) = some d) (ht : t[d]? = some (.bool c)) (hbc : c ≠ b) (hq : q) : if Region.wanted o (yielded ops t) = true then p else q := by
  rw [if_neg (by simp [Region.wanted, h, yielded_at hd ht, hbc])]; exact hq

theorem wp_val {o : Oper} {a : Act} {w : World} {K : Act → World → Prop} {Q : Exit → Act → World → Prop} (v : Value) (hrun : (execOp a.eval o).run P w = .ok (.value v) w) (h : K (a.put o.dst v) w) : o.wp P a w K Q := by
  unfold Oper.wp
  rw [hrun, Oper.upon_value]
  exact h

theorem wp_move {o : Oper} {a : Act} {w : World} {K : Act → World → Prop} {Q : Exit → Act → World → Prop} (x : Operand) (v : Value) (ho : o.op = .move x) (hx : a.eval x = v) (h : K (a.put o.dst v) w) : o.wp P a w K Q := by
  refine wp_val v ?_ h
  unfold execOp; rw [ho]; subst hx; rfl

theorem wp_pick {o : Oper} {a : Act} {w : World} {K : Act → World → Prop} {Q : Exit → Act → World → Prop} (c x y : Operand) (b : Bool) (v : Value) (ho : o.op = .pick c x y) (hc : a.eval c = .bool b) (hx : (if b then a.eval x else a.eval y) = v)
    (h : K (a.put o.dst v) w) : o.wp P a w K Q := by
  refine wp_val v ?_ h
  unfold execOp; rw [ho]; subst hx
  cases b <;> simp [hc, asBool]

theorem wp_fn2 {o : Oper} {a : Act} {w : World} {K : Act → World → Prop} {Q : Exit → Act → World → Prop} (f : FuncId) (x y : Operand) (tys : Array TypeId) (u v : Value)
    (ho : o.op = .call { callee := .value (.func f), args := #[x, y], argTypes := tys }) (hx : a.eval x = u) (hy : a.eval y = v)
    (hf : ∀ (args : Array Value) (w : World), (callFunc f args).run P w = .ok (.enter f args) w) (h : Calls P f #[u, v] w fun e w' => ∃ r, e = .returned r ∧ K (a.put o.dst r) w') : o.wp P a w K Q := by
  subst hx; subst hy
  have hrun : (execOp a.eval o).run P w = .ok (.enter f #[a.eval x, a.eval y]) w := by
    unfold execOp
    rw [ho]
    have h0 := hf #[a.eval x, a.eval y] w
    have e : a.eval (Operand.func f) = Value.func (.func f) #[] #[] := rfl
    generalize a.eval = ρ at *
    simp [resolve, Deferred.ofValue, invoke, e, h0]
  unfold Oper.wp
  rw [hrun, Oper.upon_enter]
  exact h.mono fun e w' ⟨r, h1, h2⟩ => by subst h1; exact h2

theorem wp_fn0 {o : Oper} {a : Act} {w : World} {K : Act → World → Prop} {Q : Exit → Act → World → Prop} (f : FuncId) (tys : Array TypeId)
    (ho : o.op = .call { callee := .value (.func f), args := #[], argTypes := tys })
    (hf : ∀ (args : Array Value) (w : World), (callFunc f args).run P w = .ok (.enter f args) w) (h : Calls P f #[] w fun e w' => ∃ r, e = .returned r ∧ K (a.put o.dst r) w') : o.wp P a w K Q := by
  have hrun : (execOp a.eval o).run P w = .ok (.enter f #[]) w := by
    unfold execOp
    rw [ho]
    have h0 := hf #[] w
    have e : a.eval (Operand.func f) = Value.func (.func f) #[] #[] := rfl
    generalize a.eval = ρ at *
    simp [resolve, Deferred.ofValue, invoke, e, h0]
  unfold Oper.wp
  rw [hrun, Oper.upon_enter]
  exact h.mono fun e w' ⟨r, h1, h2⟩ => by subst h1; exact h2
end Go.Proofs.YtemkpihfenokmaaDoor
