/- Steps and walks for the ladder's laws: keys compared, tuples taken apart; the law's own 'works'. -/
import Derived.Test.YtciakfhjjnmeeaaLadOps
namespace Go.Proofs.Ytciakfhjjnmeeaa
open Go.RowKit Nt Edw

section
variable {P : Program} {o : Oper} {a : Act} {w : World} {Q : Exit → Act → World → Prop} {d : Nat} {K : Act → World → Prop} {V : Value → Prop} {u v : Value}
theorem op_tup0 (x : Operand) (ho : o.op = .extract x 0) (hd : o.dst = some d) (hx : a.eval x = .tuple #[u, v]) (hV : V u)
    (hK : ∀ x w', V x → Below w.heap.size w w' → K (a.put (some d) x) w') : o.wp P a w K Q := by
  refine op_val u hd ?_ hV hK
  unfold execOp; rw [ho]
  show ((do let z ← Instr.extract (a.eval x) 0; pure (Next.value z)) : Sem Next).run P w = _
  rw [hx]; rfl
theorem op_tup1 (x : Operand) (ho : o.op = .extract x 1) (hd : o.dst = some d) (hx : a.eval x = .tuple #[u, v]) (hV : V v)
    (hK : ∀ x w', V x → Below w.heap.size w w' → K (a.put (some d) x) w') : o.wp P a w K Q := by
  refine op_val v hd ?_ hV hK
  unfold execOp; rw [ho]
  show ((do let z ← Instr.extract (a.eval x) 1; pure (Next.value z)) : Sem Next).run P w = _
  rw [hx]; rfl
end

section
variable {p q : Operand} (xs ys : List Int) (hx : xs.length = 32) (hy : ys.length = 32) (w : World)
include hx
theorem eql_key_same : (do eqGuard .eql 68 p q (.agg (vals xs)) (.agg (vals xs)); binOp .eql 68 (.agg (vals xs)) (.agg (vals xs)) : Sem Value).run Try.prog w = .ok (.bool true) w := by
  rw [eql_key xs xs hx hx w, decide_eq_true rfl]
theorem neq_key_same : (do eqGuard .neq 68 p q (.agg (vals xs)) (.agg (vals xs)); binOp .neq 68 (.agg (vals xs)) (.agg (vals xs)) : Sem Value).run Try.prog w = .ok (.bool false) w := by
  rw [neq_key xs xs hx hx w, decide_eq_true rfl]; rfl
include hy
theorem neq_key_diff (h : xs ≠ ys) : (do eqGuard .neq 68 p q (.agg (vals xs)) (.agg (vals ys)); binOp .neq 68 (.agg (vals xs)) (.agg (vals ys)) : Sem Value).run Try.prog w = .ok (.bool true) w := by
  rw [neq_key xs ys hx hy w, decide_eq_false h]; rfl
end

def zeroL : List Int := [0, 0, 0, 0, 0, 0, 0, 0, 0, 0, 0, 0, 0, 0, 0, 0, 0, 0, 0, 0, 0, 0, 0, 0, 0, 0, 0, 0, 0, 0, 0, 0]
theorem zeroL_bytes : zeroL = bytesN 0 := by decide
theorem bytes_ne_zero {R : F} (h : R ≠ 0) : bytesN R.val ≠ zeroL := by
  intro e
  rw [zeroL_bytes] at e
  have h1 := num_bytesN R.val (Nat.lt_trans R.isLt (by decide))
  rw [e, num_bytesN 0 (by decide)] at h1
  exact h (F.ext (by have : R.val = 0 := by omega
                     rw [this]; rfl))
theorem numF_own (R : F) : numF (bytesN R.val) = R := numF_bytes R R.val rfl

def c255 : List Int := [255, 0, 0, 0, 0, 0, 0, 0, 0, 0, 0, 0, 0, 0, 0, 0, 0, 0, 0, 0, 0, 0, 0, 0, 0, 0, 0, 0, 0, 0, 0, 0]
def c248 : List Int := [248, 0, 0, 0, 0, 0, 0, 0, 0, 0, 0, 0, 0, 0, 0, 0, 0, 0, 0, 0, 0, 0, 0, 0, 0, 0, 0, 0, 0, 0, 0, 64]
set_option maxHeartbeats 1000000 in
set_option maxRecDepth 100000 in
theorem works_any (w : World) : Calls Try.prog 49 #[] w (Gives (· = .bool true) w) := by
  have HC := fun w => clamp_any c255 w rfl (fun x hx => by simp [c255] at hx; omega)
  have e : clampL c255 = c248 := by decide
  rw [e] at HC
  have qe : ∀ w, (Op.equalIn 10000 68 (.agg (vals c248)) (.agg (vals c248))).run Try.prog w = .ok true w := fun w => by
    have h := run_equalIn_vals (P := Try.prog) w .u8 9998 68 5 32 Try.underlying68 Try.underlying5 (fun w => by kernel_rfl) c248 c248 rfl rfl
    rw [decide_eq_true rfl] at h
    exact h
  have HC' := Lib.hid HC
  clear HC e
  go_enter Try.func49, Try.ntmps49
  go_wp2_with fail
  refine (HC'.out _).mono ?_
  rintro e w1 ⟨r, rfl, rfl, b1⟩
  clear HC'
  have q2 : ∀ w, (Op.equalIn 10000 68 (.agg (vals c248)) (.agg #[.int .u8 248, .int .u8 0, .int .u8 0, .int .u8 0, .int .u8 0, .int .u8 0, .int .u8 0, .int .u8 0, .int .u8 0, .int .u8 0, .int .u8 0, .int .u8 0, .int .u8 0, .int .u8 0, .int .u8 0, .int .u8 0, .int .u8 0, .int .u8 0, .int .u8 0, .int .u8 0, .int .u8 0, .int .u8 0, .int .u8 0, .int .u8 0, .int .u8 0, .int .u8 0, .int .u8 0, .int .u8 0, .int .u8 0, .int .u8 0, .int .u8 0, .int .u8 64])).run Try.prog w = .ok true w := qe
  clear qe
  go_wp2_with fail
  clear q2
  go_returns
  exact ⟨_, rfl, rfl, b1⟩
end Go.Proofs.Ytciakfhjjnmeeaa
