/- More contracts over values that are numbers or bytes, for regions met operation by operation. -/
import Derived.Test.YtciakfhjjnmeeaaOpsF
import Derived.Test.YtciakfhjjnmeeaaFieldP
namespace Go.Proofs.Ytciakfhjjnmeeaa
open Go.RowKit Nt

theorem awake_ev (w : World) : Calls Try.prog 24 #[] w (Gives (· = .bool true) w) := (awake_any w).mono fun _ _ ⟨e1, e2⟩ => ⟨_, e1, rfl, e2⟩
theorem prime_ev (k : Int) (h0 : 0 ≤ k) (h1 : k ≤ 237) (w : World) : Calls Try.prog 41 #[.int .u8 k] w (Gives (· = .agg (vals (pb k))) w) :=
  (prime_any k w h0 h1).mono fun _ _ ⟨e1, e2⟩ => ⟨_, e1, rfl, e2⟩
theorem bytes_ev {x : Value} {n : F} (hx : IsEl n x) (V : Nat) (hV : n.val = V) (w : World) : Calls Try.prog 20 #[x] w (Gives (· = .agg (vals (bytesN V))) w) := by
  subst hV; exact bytes_el hx w
set_option maxRecDepth 100000 in
/-- '==' of two rows of 32 bytes. -/
theorem eql_by {p q : Operand} (xs ys : List Int) (hx : xs.length = 32) (hy : ys.length = 32) (w : World) :
    (do eqGuard .eql 22 p q (.agg (vals xs)) (.agg (vals ys)); binOp .eql 22 (.agg (vals xs)) (.agg (vals ys)) : Sem Value).run Try.prog w = .ok (.bool (decide (xs = ys))) w := by
  have h1 : (eqGuard .eql 22 p q (.agg (vals xs)) (.agg (vals ys))).run Try.prog w = .ok () w := by kernel_rfl
  have h2 := run_eql_vals (P := Try.prog) w .u8 22 5 32 Try.underlying22 Try.underlying5 (fun w => by kernel_rfl) xs ys hx hy
  rw [Sem.run_bind, h1]
  exact h2
theorem eql_by_same {p q : Operand} (xs : List Int) (hx : xs.length = 32) (w : World) :
    (do eqGuard .eql 22 p q (.agg (vals xs)) (.agg (vals xs)); binOp .eql 22 (.agg (vals xs)) (.agg (vals xs)) : Sem Value).run Try.prog w = .ok (.bool true) w := by
  rw [eql_by xs xs hx hx w, decide_eq_true rfl]
theorem neq_bool {p q : Operand} (a b : Bool) (w : World) : (do eqGuard .neq 4 p q (.bool a) (.bool b); binOp .neq 4 (.bool a) (.bool b) : Sem Value).run Try.prog w = .ok (.bool (a != b)) w := by
  cases a <;> cases b <;> kernel_rfl
/-- Two Elems. -/
def IsEl2 (n m : F) (x : Value) : Prop := ∃ u v, x = .tuple #[u, v] ∧ IsEl n u ∧ IsEl m v
section
variable {o : Oper} {a : Act} {w : World} {Q : Exit → Act → World → Prop} {d : Nat} {K : Act → World → Prop} {n m : F}
theorem op_ext0 (x : Operand) {u : Value} (ho : o.op = .extract x 0) (hd : o.dst = some d) (hx : a.eval x = u) (hu : IsEl2 n m u)
    (hK : ∀ x w', IsEl n x → Below w.heap.size w w' → K (a.put (some d) x) w') : o.wp Try.prog a w K Q := by
  obtain ⟨u0, v0, rfl, h1, h2⟩ := hu
  refine op_val (V := IsEl n) u0 hd ?_ h1 hK
  unfold execOp; rw [ho]
  show ((do let z ← Instr.extract (a.eval x) 0; pure (Next.value z)) : Sem Next).run Try.prog w = _
  rw [hx]; rfl
theorem op_ext1 (x : Operand) {u : Value} (ho : o.op = .extract x 1) (hd : o.dst = some d) (hx : a.eval x = u) (hu : IsEl2 n m u)
    (hK : ∀ x w', IsEl m x → Below w.heap.size w w' → K (a.put (some d) x) w') : o.wp Try.prog a w K Q := by
  obtain ⟨u0, v0, rfl, h1, h2⟩ := hu
  refine op_val (V := IsEl m) v0 hd ?_ h2 hK
  unfold execOp; rw [ho]
  show ((do let z ← Instr.extract (a.eval x) 1; pure (Next.value z)) : Sem Next).run Try.prog w = _
  rw [hx]; rfl
theorem swap_ev {x y : Value} (b : Bool) {v : Int} (h : (0 ≤ v ∧ v < 18446744073709551616) ∧ decide (v % 2 = 1) = b) (hx : IsEl n x) (hy : IsEl m y) (w : World) : Calls Try.prog 38 #[.int .u64 v, x, y] w (Gives (IsEl2 (selF b m n) (selF b n m)) w) := by
  obtain ⟨_, _, _, _, _, rfl, h1⟩ := hx; obtain ⟨_, _, _, _, _, rfl, h2⟩ := hy
  exact (swap_any b v _ _ _ _ _ _ _ _ _ _ n m w h.1 h.2 h1 h2).mono fun _ _ ⟨z0, z1, z2, z3, z4, u0, u1, u2, u3, u4, e1, e2, e3, e4⟩ => ⟨_, e1, ⟨_, _, rfl, ⟨z0, z1, z2, z3, z4, rfl, e2⟩, ⟨u0, u1, u2, u3, u4, rfl, e3⟩⟩, e4⟩
theorem pick_ev {x y : Value} (b : Bool) {v : Int} (h : (0 ≤ v ∧ v < 18446744073709551616) ∧ decide (v % 2 = 1) = b) (hx : IsEl n x) (hy : IsEl m y) (w : World) : Calls Try.prog 39 #[.int .u64 v, x, y] w (Gives (IsEl (selF b n m)) w) := by
  obtain ⟨_, _, _, _, _, rfl, h1⟩ := hx; obtain ⟨_, _, _, _, _, rfl, h2⟩ := hy
  exact (pick_any b v _ _ _ _ _ _ _ _ _ _ n m w h.1 h.2 h1 h2).mono fun _ _ ⟨z0, z1, z2, z3, z4, e1, e2, e3⟩ => ⟨_, e1, ⟨z0, z1, z2, z3, z4, rfl, e2⟩, e3⟩
theorem times_ev {x : Value} {k : Int} {m' : F} (hk : 0 ≤ k ∧ k < 4294967296) (hm : n * Fin.ofNat P k.toNat = m') (hx : IsEl n x) (w : World) : Calls Try.prog 40 #[x, .int .u32 k] w (Gives (IsEl m') w) := by
  subst hm
  obtain ⟨_, _, _, _, _, rfl, h1⟩ := hx
  exact (times_any k _ _ _ _ _ n w hk h1).mono fun _ _ ⟨z0, z1, z2, z3, z4, e1, e2, e3⟩ => ⟨_, e1, ⟨z0, z1, z2, z3, z4, rfl, e2⟩, e3⟩
end
end Go.Proofs.Ytciakfhjjnmeeaa
