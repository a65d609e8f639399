/- A drawn region by one fact over what has come up, the values and the world. Said over any program. -/
import Derived.Test.YtemkpihfenokmaaDoorOpsU
namespace Go.Proofs.YtemkpihfenokmaaDoor
open Go.RowKit
variable {P : Program}
theorem wp_region_gen {id : Nat} {Q : Exit → Act → World → Prop} {w : World} {l : List Oper} {t0 : Array Value} {df : List Deferred} (n : Nat) (D : Nat → Nat) (F : (Nat → Bool) → (Nat → Value) → World → Prop)
    (hm : P.follows .mixedOrders = true) (hB : headB l.toArray n = true) (hD : ∀ i j, i < n → j < n → j ≠ i → D j ≠ D i) (hDs : ∀ i, i < n → D i < t0.size) (h0 : F (fun _ => false) (fun _ => undef) w.drew)
    (hstep : ∀ i o, i < n → l[i]? = some o → o.dst = some (D i) ∧ ∀ (f : Nat → Bool) (v : Nat → Value) (a : Act) (w : World), F f v w → f i = false → (∀ j, depB o j = true → f j = true) → (∀ k, (∀ j, j < n → D j ≠ k) → a.tmps[k]? = t0[k]?) →
      (∀ j, j < n → f j = true → a.tmps[D j]? = some (v j)) → ∀ K : Act → World → Prop, (∀ x w', F (upF f i) (upV v i x) w' → K (a.put (some (D i)) x) w') →
        if Region.wanted o (yielded l.toArray a.tmps) = true then o.wp P a w K Q else K (a.put (some (D i)) undef) w)
    (tail : ∀ (v : Nat → Value) (f : Nat → Bool) (t : Array Value) (w : World), t.size = t0.size → (∀ k, (∀ j, j < n → D j ≠ k) → t[k]? = t0[k]?) → (∀ j, j < n → t[D j]? = some (v j)) → (∀ j, j < n → f j = true) → F f v w → wpList P l.toArray Q (l.drop n) ⟨t, df⟩ w) :
    (Code.region id l.toArray true).wp P Q ⟨t0, df⟩ w := by
  refine wp_region_inv n hm hB (fun f a w => ∃ v, a = ⟨fillA D f v n t0, df⟩ ∧ F f v w) ⟨fun _ => undef, by rw [fillA_none], h0⟩ ?_ ?_
  · rintro f a w i o hi ho hfi hdep ⟨v, rfl, hF⟩ K hK
    have hput : ∀ x, (Act.put ⟨fillA D f v n t0, df⟩ (some (D i)) x) = ⟨fillA D (upF f i) (upV v i x) n t0, df⟩ := by
      intro x
      show (⟨(fillA D f v n t0).setIfInBounds (D i) x, df⟩ : Act) = _
      rw [fillA_put D f v i x n t0 hi hfi (fun j hj hne => hD i j hi hj hne)]
    obtain ⟨h1, h2⟩ := hstep i o hi ho
    rw [h1]
    refine h2 f v _ w hF hfi (fun j hj => ?_) (fun k hk => fillA_other D f v k n t0 hk) (fun j hj hf => fillA_get D f v j n t0 hj hf (hDs _ hj) (fun k hk hne => hD _ k hj hk hne)) K fun x w' hx => ?_
    · obtain ⟨e, he, hbn, rfl⟩ := depB_mem hj
      exact hdep e he hbn
    · rw [hput x]
      exact hK _ _ ⟨_, rfl, hx⟩
  · rintro f a w hf ⟨v, rfl, hF⟩
    exact tail v f _ w (fillA_size D f v n t0) (fun k hk => fillA_other D f v k n t0 hk) (fun j hj => fillA_get D f v j n t0 hj (hf j hj) (hDs _ hj) (fun k hk hne => hD _ k hj hk hne)) hf hF
theorem upF_here (f : Nat → Bool) (i : Nat) : upF f i i = true := by simp [upF]
theorem upF_far {f : Nat → Bool} {i j : Nat} (h : j ≠ i) : upF f i j = f j := by simp only [upF]; rw [if_neg h]
theorem upV_here (v : Nat → Value) (i : Nat) (x : Value) : upV v i x i = x := by simp [upV]
theorem upV_far {v : Nat → Value} {i j : Nat} {x : Value} (h : j ≠ i) : upV v i x j = v j := by simp only [upV]; rw [if_neg h]
end Go.Proofs.YtemkpihfenokmaaDoor
