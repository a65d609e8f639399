/- A drawn region whose operations only add to memory: each brings a fact on its own value that stays. Said over any program. -/
import Derived.Test.YtemkpihfenokmaaDoorOpsV
namespace Go.Proofs.YtemkpihfenokmaaDoor
open Go.RowKit
variable {P : Program}
theorem wp_region_own {id : Nat} {Q : Exit → Act → World → Prop} {w : World} {l : List Oper} {t0 : Array Value} {df : List Deferred} (n : Nat) (D : Nat → Nat) (U : Nat → Value → World → Prop)
    (hm : P.follows .mixedOrders = true) (hB : headB l.toArray n = true) (hD : ∀ i j, i < n → j < n → j ≠ i → D j ≠ D i) (hDs : ∀ i, i < n → D i < t0.size)
    (hU : ∀ j x w1 w2, U j x w1 → Below w1.heap.size w1 w2 → U j x w2)
    (hstep : ∀ i o, i < n → l[i]? = some o → o.dst = some (D i) ∧ ∀ (v : Nat → Value) (a : Act) (w1 : World), Below w.heap.size w w1 → (∀ k, (∀ j, j < n → D j ≠ k) → a.tmps[k]? = t0[k]?) →
      (∀ j, j < n → depB o j = true → a.tmps[D j]? = some (v j) ∧ U j (v j) w1) → ∀ K : Act → World → Prop, (∀ x w2, U i x w2 → Below w1.heap.size w1 w2 → K (a.put (some (D i)) x) w2) →
        if Region.wanted o (yielded l.toArray a.tmps) = true then o.wp P a w1 K Q else K (a.put (some (D i)) undef) w1)
    (tail : ∀ (v : Nat → Value) (t : Array Value) (w1 : World), t.size = t0.size → (∀ k, (∀ j, j < n → D j ≠ k) → t[k]? = t0[k]?) → (∀ j, j < n → t[D j]? = some (v j)) → Below w.heap.size w w1 → (∀ j, j < n → U j (v j) w1) → wpList P l.toArray Q (l.drop n) ⟨t, df⟩ w1) :
    (Code.region id l.toArray true).wp P Q ⟨t0, df⟩ w := by
  refine wp_region_gen n D (fun f v w1 => Below w.heap.size w w1 ∧ ∀ j, j < n → f j = true → U j (v j) w1) hm hB hD hDs ⟨(Below.refl _ _).drew, fun j _ h => by cases h⟩ ?_ ?_
  · intro i o hi ho
    obtain ⟨h1, h2⟩ := hstep i o hi ho
    refine ⟨h1, fun f v a w1 hF hfi hdep hold hin K hK => h2 v a w1 hF.1 hold (fun j hj hd => ⟨hin j hj (hdep j hd), hF.2 j hj (hdep j hd)⟩) K fun x w2 hx hb => hK x w2 ⟨below_call hb hF.1, fun j hj hf => ?_⟩⟩
    by_cases e : j = i
    · subst e
      rw [upV_here]
      exact hx
    · rw [upV_far e]
      rw [upF_far e] at hf
      exact hU _ _ _ _ (hF.2 j hj hf) hb
  · intro v f t w1 hs hold hin hall hF
    exact tail v t w1 hs hold hin hF.1 fun j hj => hF.2 j hj (hall j hj)
section
variable {o : Oper} {a : Act} {w : World} {Q : Exit → Act → World → Prop} {d : Nat} {K : Act → World → Prop}
/-- A new variable. -/
theorem op_new (t : TypeId) (ho : o.op = .alloc t) (hd : o.dst = some d) (v : Value) (cs : Array Value) (hv : v.cells = cs) (hrun : ∀ w, (zeroValue t).run P w = .ok v w)
    (hK : ∀ x w', (∃ g, x = .pointer (some ⟨g, 0, none⟩) ∧ w.heap.size ≤ g ∧ w'.heap[g]? = some (.cells cs t (0, 0))) → Below w.heap.size w w' → K (a.put (some d) x) w') : o.wp P a w K Q := by
  subst hv
  unfold Oper.wp
  rw [show (execOp a.eval o).run P w = .ok (.value (.pointer (some ⟨w.heap.size, 0, none⟩))) (w.alloc (.cells v.cells t)) from ?_, Oper.upon_value, hd]
  · exact hK _ _ ⟨_, rfl, Nat.le_refl _, heap_alloc_new w _⟩ ((Below.refl _ _).alloc (Nat.le_refl _) _)
  · unfold execOp; rw [ho]
    simp [Instr.alloc, hrun, newVar, newRow]
end
end Go.Proofs.YtemkpihfenokmaaDoor
