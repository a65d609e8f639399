/- Is a config good: codec.Check and the reference's Check: one answer. No condition. -/
import Derived.Test.YtemkpihfenokmaaDoorCodA
namespace Go.Proofs.YtemkpihfenokmaaDoor
open Go.RowKit
theorem tInt : CellT Tryd.prog 3 := ⟨_, Tryd.underlying3, rfl⟩
/-- A good config. -/
def good (n0 n1 n2 n3 n4 n5 : Int) : Bool := decide ((1 ≤ n0 ∧ n0 ≤ 256) ∧ (32 ≤ n1 ∧ n1 ≤ 512) ∧ (2 ≤ n2 ∧ n2 ≤ 64) ∧ ((26 + n1 ≤ n3 ∧ 114 ≤ n3) ∧ n3 ≤ 4096) ∧ (2 ≤ n4 ∧ n4 ≤ 16) ∧ (1 ≤ n5 ∧ n5 ≤ 16))
section
variable {P : Program} {o : Oper} {a : Act} {w : World} {Q : Exit → Act → World → Prop} {d : Nat} {K : Act → World → Prop}
theorem op_max (x y : Operand) (tys : Array TypeId) (u v m : Int) (ho : o.op = .call { callee := .builtin .max, args := #[x, y], argTypes := tys }) (hd : o.dst = some d) (hx : a.eval x = .int .i64 u) (hy : a.eval y = .int .i64 v) (h : (if v > u then v else u) = m)
    (hK : ∀ x w', x = .int .i64 m → Below w.heap.size w w' → K (a.put (some d) x) w') : o.wp P a w K Q := by
  subst h
  refine op_val (V := (· = .int .i64 _)) (.int .i64 _) hd ?_ rfl hK
  unfold execOp
  simp only [ho, resolve, invoke, builtin, Sem.run_bind, Sem.run_pure, Result.andThen_ok, List.map_toArray, List.map_cons, List.map_nil, hx, hy]
  rw [run_max_int2]
  rfl
end
theorem add_in {p q : Operand} (a b : Int) (h : -9223372036854775808 ≤ a + b ∧ a + b ≤ 9223372036854775807) (w : World) : (do eqGuard .add 3 p q (.int .i64 a) (.int .i64 b); binOp .add 3 (.int .i64 a) (.int .i64 b) : Sem Value).run Tryd.prog w = .ok (.int .i64 (a + b)) w := by
  have e : IntKind.i64.wrap (a + b) = a + b := IntWalk.i64_in _ (by omega)
  conv => rhs; rw [← e]
  rfl

theorem cmp_geq {p q : Operand} {a b : Int} {c : Bool} (h : decide (b ≤ a) = c) (w : World) : (do eqGuard .geq 3 p q (.int .i64 a) (.int .i64 b); binOp .geq 3 (.int .i64 a) (.int .i64 b) : Sem Value).run Tryd.prog w = .ok (.bool c) w := by
  subst h; rfl
theorem cmp_leq {p q : Operand} {a b : Int} {c : Bool} (h : decide (a ≤ b) = c) (w : World) : (do eqGuard .leq 3 p q (.int .i64 a) (.int .i64 b); binOp .leq 3 (.int .i64 a) (.int .i64 b) : Sem Value).run Tryd.prog w = .ok (.bool c) w := by
  subst h; rfl
end Go.Proofs.YtemkpihfenokmaaDoor
