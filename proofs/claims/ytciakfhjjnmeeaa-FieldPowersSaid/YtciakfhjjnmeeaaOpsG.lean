/- More contracts over values that are numbers or bytes, for regions met operation by operation. -/
import Derived.Test.YtciakfhjjnmeeaaOpsF
import Derived.Test.YtciakfhjjnmeeaaFieldP
namespace Go.Proofs.Ytciakfhjjnmeeaa
open Go.RowKit Nt

theorem awake_ev (w : World) : Calls Try.prog 24 #[] w (Gives (· = .bool true) w) := (awake_any w).mono fun _ _ ⟨e1, e2⟩ => ⟨_, e1, rfl, e2⟩
theorem prime_ev (k : Int) (h0 : 0 ≤ k) (h1 : k ≤ 237) (w : World) : Calls Try.prog 41 #[.int .u8 k] w (Gives (· = .agg (vals (pb k))) w) :=
  (prime_any k w h0 h1).mono fun _ _ ⟨e1, e2⟩ => ⟨_, e1, rfl, e2⟩
theorem bytes_ev {x : Value} {n : F} (hx : IsEl n x) (V : Nat) (hV : n.val = V) (w : World) : Calls Try.prog 20 #[x] w (Gives (· = .agg (vals (bytesN V))) w) := by
  subst hV; exact bytes_el hx w
set_option maxRecDepth 100000 in
/-- '==' of two rows of 32 bytes. -/
theorem eql_by {p q : Operand} (xs ys : List Int) (hx : xs.length = 32) (hy : ys.length = 32) (w : World) :
    (do eqGuard .eql 22 p q (.agg (vals xs)) (.agg (vals ys)); binOp .eql 22 (.agg (vals xs)) (.agg (vals ys)) : Sem Value).run Try.prog w = .ok (.bool (decide (xs = ys))) w := by
  have h1 : (eqGuard .eql 22 p q (.agg (vals xs)) (.agg (vals ys))).run Try.prog w = .ok () w := by kernel_rfl
  have h2 := run_eql_vals (P := Try.prog) w .u8 22 5 32 Try.underlying22 Try.underlying5 (fun w => by kernel_rfl) xs ys hx hy
  rw [Sem.run_bind, h1]
  exact h2
theorem eql_by_same {p q : Operand} (xs : List Int) (hx : xs.length = 32) (w : World) :
    (do eqGuard .eql 22 p q (.agg (vals xs)) (.agg (vals xs)); binOp .eql 22 (.agg (vals xs)) (.agg (vals xs)) : Sem Value).run Try.prog w = .ok (.bool true) w := by
  rw [eql_by xs xs hx hx w, decide_eq_true rfl]
theorem neq_bool {p q : Operand} (a b : Bool) (w : World) : (do eqGuard .neq 4 p q (.bool a) (.bool b); binOp .neq 4 (.bool a) (.bool b) : Sem Value).run Try.prog w = .ok (.bool (a != b)) w := by
  cases a <;> cases b <;> kernel_rfl
end Go.Proofs.Ytciakfhjjnmeeaa
