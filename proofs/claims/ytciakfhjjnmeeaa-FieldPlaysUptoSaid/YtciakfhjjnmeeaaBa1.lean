/- Texts of this proof's own, one behind the other: plain laws and walks of the packages field and ladder. No condition. -/
import Derived.Test.YtciakfhjjnmeeaaProg
import Derived.Test.YtciakfhjjnmeeaaBa0
namespace Go.Proofs.Ytciakfhjjnmeeaa
open Go.RowKit
variable {P : Program}

theorem eval_tmp {a : Act} {t : Nat} {v : Value} (h : a.tmps[t]? = some v) : a.eval (.tmp t) = v := by
  show a.tmps.getD t undef = v
  rw [Array.getD_eq_getD_getElem?, h]; rfl

theorem wp_fn1 {o : Oper} {a : Act} {w : World} {K : Act → World → Prop} {Q : Exit → Act → World → Prop} (f : FuncId) (x : Operand) (tys : Array TypeId) (v : Value)
    (ho : o.op = .call { callee := .value (.func f), args := #[x], argTypes := tys }) (hx : a.eval x = v)
    (hf : ∀ (args : Array Value) (w : World), (callFunc f args).run P w = .ok (.enter f args) w) (h : Calls P f #[v] w fun e w' => ∃ r, e = .returned r ∧ K (a.put o.dst r) w') : o.wp P a w K Q := by
  subst hx
  have hrun : (execOp a.eval o).run P w = .ok (.enter f #[a.eval x]) w := by
    unfold execOp
    rw [ho]
    have h0 := hf #[a.eval x] w
    have e : a.eval (Operand.func f) = Value.func (.func f) #[] #[] := rfl
    generalize a.eval = ρ at *
    simp [resolve, Deferred.ofValue, invoke, e, h0]
  unfold Oper.wp
  rw [hrun, Oper.upon_enter]
  exact h.mono fun e w' ⟨r, h1, h2⟩ => by subst h1; exact h2

theorem wp_new {o : Oper} {a : Act} {w : World} {K : Act → World → Prop} {Q : Exit → Act → World → Prop} (t : TypeId) (cs : Array Value)
    (hrun : ∀ w, (execOp a.eval o).run P w = .ok (.value (.pointer (some ⟨w.heap.size, 0, none⟩))) (w.alloc (.cells cs t)))
    (h : K (a.put o.dst (.pointer (some ⟨w.heap.size, 0, none⟩))) (w.alloc (.cells cs t))) : o.wp P a w K Q := by
  unfold Oper.wp
  rw [hrun, Oper.upon_value]
  exact h

theorem slots_apart {n : Nat} {D : Nat → Nat} (h : ((List.range n).all fun i => (List.range n).all fun j => decide (j = i) || decide (D j ≠ D i)) = true) : ∀ i j, i < n → j < n → j ≠ i → D j ≠ D i := by
  intro i j hi hj hne
  rw [List.all_eq_true] at h
  have h1 := h i (List.mem_range.2 hi)
  rw [List.all_eq_true] at h1
  have h2 := h1 j (List.mem_range.2 hj)
  simpa [hne] using h2

theorem slots_lie {n m : Nat} {D : Nat → Nat} (h : ((List.range n).all fun i => decide (D i < m)) = true) : ∀ i, i < n → D i < m := by
  intro i hi
  rw [List.all_eq_true] at h
  simpa using h i (List.mem_range.2 hi)

theorem slots_not {n k : Nat} {D : Nat → Nat} (h : ((List.range n).all fun i => decide (D i ≠ k)) = true) : ∀ i, i < n → D i ≠ k := by
  intro i hi
  rw [List.all_eq_true] at h
  simpa using h i (List.mem_range.2 hi)
end Go.Proofs.Ytciakfhjjnmeeaa

namespace Go.Proofs.Ytciakfhjjnmeeaa
open Go.RowKit
variable {P : Program}

/-- What an invariant over what has come up so far has to keep, step by step. -/
def StepI (P : Program) (Q : Exit → Act → World → Prop) (l : List Oper) (n : Nat) (I : (Nat → Bool) → Act → World → Prop) : Prop :=
  ∀ (f : Nat → Bool) (a : Act) (w : World) (i : Nat) (o : Oper), i < n → l[i]? = some o → f i = false → (∀ e ∈ o.after, Region.binds .any e = true → f e.on = true) → I f a w →
      ∀ K : Act → World → Prop, (∀ a' w', I (upF f i) a' w' → K a' w') → if Region.wanted o (yielded l.toArray a.tmps) = true then o.wp P a w K Q else K (a.put o.dst undef) w
/-- .. and in the end. -/
def TailI (P : Program) (Q : Exit → Act → World → Prop) (l : List Oper) (n : Nat) (I : (Nat → Bool) → Act → World → Prop) : Prop :=
  ∀ (f : Nat → Bool) (a : Act) (w : World), (∀ j, j < n → f j = true) → I f a w → wpList P l.toArray Q (l.drop n) a w
/-- G follows from any invariant that begins at the frame and the world W. -/
def ByInv (P : Program) (Q : Exit → Act → World → Prop) (l : List Oper) (n i0 : Nat) (a : Act) (W : World) (G : Prop) : Prop :=
  ∀ I : (Nat → Bool) → Act → World → Prop, I (fun j => decide (j < i0)) a W → StepI P Q l n I → TailI P Q l n I → G

theorem byInv_region {id : Nat} {Q : Exit → Act → World → Prop} {a : Act} {w : World} {l : List Oper} {n : Nat} (hm : P.follows .mixedOrders = true) (hB : headB l.toArray n = true) :
    ByInv P Q l n 0 a w.drew ((Code.region id l.toArray true).wp P Q a w) := fun I h0 st tl => wp_region_inv n hm hB I (by simpa using h0) st tl

theorem byInv_list {Q : Exit → Act → World → Prop} {a : Act} {w : World} {l : List Oper} {n : Nat} (i0 : Nat) (hi0 : i0 ≤ n) (hB : (backB l.toArray && decide (n ≤ l.length)) = true) :
    ByInv P Q l n i0 a w (wpList P l.toArray Q (l.drop i0) a w) := by
  intro I h0 st tl
  simp only [Bool.and_eq_true, decide_eq_true_eq] at hB
  obtain ⟨hb, hn⟩ := hB
  have key : ∀ (m i : Nat) (a : Act) (w : World), i + m = n → I (fun j => decide (j < i)) a w → wpList P l.toArray Q (l.drop i) a w := by
    intro m
    induction m with
    | zero =>
      intro i a w h hI
      obtain rfl : i = n := by omega
      exact tl _ a w (fun j hj => by simp [hj]) hI
    | succ m ih =>
      intro i a w h hI
      have hi : i < l.length := by omega
      rw [List.drop_eq_getElem_cons hi]
      refine wpList_step fun K hK => ?_
      refine st (fun j => decide (j < i)) a w i l[i] (by omega) (List.getElem?_eq_getElem hi) (by simp) (fun e he hbe => ?_) hI K (fun a' w' h' => hK _ _ (ih (i + 1) a' w' (by omega) ?_))
      · have h1 := List.all_eq_true.1 hb i (List.mem_range.2 (by simpa using hi))
        have e2 : l.toArray[i]? = some l[i] := by simp [hi]
        rw [e2] at h1
        have h2 := Array.all_eq_true_iff_forall_mem.1 h1 e he
        rw [hbe] at h2
        simpa using h2
      · have e : upF (fun j => decide (j < i)) i = fun j => decide (j < i + 1) := by
          funext j
          simp only [upF]
          split
          · rename_i hj; subst hj; simp
          · rename_i hj
            exact decide_eq_decide.2 ⟨fun h => by omega, fun h => by omega⟩
        rw [e] at h'; exact h'
  exact key (n - i0) i0 a w (by omega) h0

theorem fillA_self (D : Nat → Nat) (f : Nat → Bool) (t : Array Value) : ∀ n, (∀ j, j < n → D j < t.size) → fillA D f (fun j => t.getD (D j) undef) n t = t
  | 0, _ => rfl
  | n + 1, h => by
    simp only [fillA]
    rw [fillA_self D f t n (fun j hj => h j (by omega))]
    split
    · apply Array.ext_getElem?
      intro k
      rw [Array.getElem?_setIfInBounds]
      split
      · rename_i e; subst e
        have := h n (by omega)
        simp [this, Array.getD_eq_getD_getElem?]
      · rfl
    · rfl

theorem wp_ops_core {G : Prop} {Q : Exit → Act → World → Prop} {w : World} {l : List Oper} {t0 : Array Value} {df : List Deferred} (n : Nat) (D : Nat → Nat) (A : Nat → Option Nat) (V : Nat → Value → Prop) (S : World → Prop) (B : Nat)
    (i0 : Nat) (hinv : ByInv P Q l n i0 ⟨t0, df⟩ w G) (hpre : ∀ j, j < i0 → j < n → A j = none ∧ ∃ x, t0[D j]? = some x ∧ V j x) (hD : ∀ i j, i < n → j < n → j ≠ i → D j ≠ D i) (hDs : ∀ i, i < n → D i < t0.size) (h0 : S w) (hSB : ∀ w, S w → B ≤ w.heap.size)
    (hSa : ∀ w cs t, S w → S (w.alloc (.cells cs t)))
    (hval : ∀ i o, i0 ≤ i → i < n → l[i]? = some o → A i = none → o.dst = some (D i) ∧ ∀ (a : Act) (w : World), S w → (∀ k, (∀ j, j < n → D j ≠ k) → a.tmps[k]? = t0[k]?) →
      (∀ j, (∃ e ∈ o.after, Region.binds .any e = true ∧ e.on = j) → j < n → A j = none → ∃ x, a.tmps[D j]? = some x ∧ V j x) → ∀ K : Act → World → Prop, (∀ x w', V i x → S w' → Below w.heap.size w w' → K (a.put (some (D i)) x) w') →
        if Region.wanted o (yielded l.toArray a.tmps) = true then o.wp P a w K Q else K (a.put (some (D i)) undef) w)
    (hall : ∀ i o sz, i0 ≤ i → i < n → l[i]? = some o → A i = some sz → o.dst = some (D i) ∧ o.guard = none ∧ ∃ (t : TypeId) (cs : Array Value), cs.size = sz ∧ ∀ (a : Act) (w : World) (K : Act → World → Prop),
      K (a.put (some (D i)) (.pointer (some ⟨w.heap.size, 0, none⟩))) (w.alloc (.cells cs t)) → o.wp P a w K Q)
    (tail : ∀ (v : Nat → Value) (w : World), S w → (∀ i, i < n → A i = none → V i (v i)) → (∀ i, i < n → ∀ sz, A i = some sz → OwnRow B sz w (v i)) →
      (∀ i j, i < n → j < n → i ≠ j → (A i).isSome = true → (A j).isSome = true → v i ≠ v j) → wpList P l.toArray Q (l.drop n) ⟨fillA D (fun _ => true) v n t0, df⟩ w) :
    G := by
  refine hinv (fun f a w => (∀ j, j < i0 → f j = true) ∧ HI n D A V S B t0 df f a w) ⟨fun j hj => by simp [hj], fun j => t0.getD (D j) undef, by rw [fillA_self D _ t0 n hDs], h0, (fun j hj h _ => ?_), (fun j hj h sz hs => ?_), (fun i j hi hj _ h _ hs _ => ?_)⟩ ?_ ?_
  · obtain ⟨_, x, hx, hv⟩ := hpre j (by simpa using h) hj
    simpa [Array.getD_eq_getD_getElem?, hx] using hv
  · have := (hpre j (by simpa using h) hj).1
    rw [this] at hs; cases hs
  · have := (hpre i (by simpa using h) hi).1
    rw [this] at hs; cases hs
  · rintro f a w i o hi ho hfi hdep ⟨hge, v, rfl, hS, hV, hA, hne⟩ K hK
    have hi0 : i0 ≤ i := by
      rcases Nat.lt_or_ge i i0 with h | h
      · have := hge i h; rw [hfi] at this; cases this
      · exact h
    have hge' : ∀ j, j < i0 → upF f i j = true := fun j hj => by
      simp only [upF]; split
      · rfl
      · exact hge j hj
    have hput : ∀ x, (Act.put ⟨fillA D f v n t0, df⟩ (some (D i)) x) = ⟨fillA D (upF f i) (upV v i x) n t0, df⟩ := by
      intro x
      show (⟨(fillA D f v n t0).setIfInBounds (D i) x, df⟩ : Act) = _
      rw [fillA_put D f v i x n t0 hi hfi (fun j hj hne => hD i j hi hj hne)]
    have hup : ∀ j, j ≠ i → ∀ x, upF f i j = f j ∧ upV v i x j = v j := fun j hj x => ⟨by simp only [upF]; rw [if_neg hj], by simp only [upV]; rw [if_neg hj]⟩
    have hself : ∀ x, upV v i x i = x := fun x => by simp [upV]
    cases hAi : A i with
    | none =>
      obtain ⟨h1, h3⟩ := hval i o hi0 hi ho hAi
      rw [h1]
      refine h3 _ w hS (fun k hk => fillA_other D f v k n t0 hk) (fun j hj hjn hAj => ?_) K (fun x w' hx hS' hb => ?_)
      · obtain ⟨e, he, hbn, rfl⟩ := hj
        have hfj := hdep e he hbn
        exact ⟨v e.on, fillA_get D f v e.on n t0 hjn hfj (hDs _ hjn) (fun k hk hne => hD _ k hjn hk hne), hV _ hjn hfj hAj⟩
      · rw [hput x]
        refine hK _ _ ⟨hge', _, rfl, hS', ?_, ?_, ?_⟩
        · intro j hj hf hn
          by_cases e : j = i
          · subst e; rw [hself]; exact hx
          · obtain ⟨e1, e2⟩ := hup j e x
            rw [e1] at hf; rw [e2]; exact hV j hj hf hn
        · intro j hj hf sz hs
          have e : j ≠ i := fun e => by subst e; rw [hAi] at hs; cases hs
          obtain ⟨e1, e2⟩ := hup j e x
          rw [e1] at hf; rw [e2]; exact (hA j hj hf sz hs).keep hb
        · intro j k hj hk hjk hfj hfk hsj hsk
          have e : j ≠ i := fun e => by subst e; rw [hAi] at hsj; cases hsj
          have e' : k ≠ i := fun e => by subst e; rw [hAi] at hsk; cases hsk
          obtain ⟨e1, e2⟩ := hup j e x
          obtain ⟨e3, e4⟩ := hup k e' x
          rw [e1] at hfj; rw [e3] at hfk; rw [e2, e4]
          exact hne j k hj hk hjk hfj hfk hsj hsk
    | some sz =>
      obtain ⟨h1, h2, t, cs, hcs, h3⟩ := hall i o sz hi0 hi ho hAi
      have hw : Region.wanted o (yielded l.toArray (fillA D f v n t0)) = true := by simp [Region.wanted, h2]
      rw [if_pos hw]
      refine h3 _ w K ?_
      rw [hput]
      have hBw := hSB w hS
      have hbel : Below w.heap.size w (w.alloc (.cells cs t)) := (Below.refl _ _).alloc (Nat.le_refl _) _
      have hold : ∀ j, j < n → f j = true → (A j).isSome = true → v j ≠ .pointer (some ⟨w.heap.size, 0, none⟩) := by
        intro j hj hf hs he
        obtain ⟨s, hs'⟩ := Option.isSome_iff_exists.1 hs
        obtain ⟨g, t', cs', hv, _, hr, _⟩ := hA j hj hf s hs'
        rw [hv] at he
        have hg : g = w.heap.size := by injection he with he; injection he with he; injection he
        have := row_lt hr
        omega
      refine hK _ _ ⟨hge', _, rfl, hSa w cs t hS, ?_, ?_, ?_⟩
      · intro j hj hf hn
        have e : j ≠ i := fun e => by subst e; rw [hAi] at hn; cases hn
        obtain ⟨e1, e2⟩ := hup j e (.pointer (some ⟨w.heap.size, 0, none⟩))
        rw [e1] at hf; rw [e2]; exact hV j hj hf hn
      · intro j hj hf s hs
        by_cases e : j = i
        · subst e
          rw [hself]
          rw [hAi] at hs
          obtain rfl := Option.some.inj hs
          exact ⟨w.heap.size, t, cs, rfl, hBw, row_new, hcs⟩
        · obtain ⟨e1, e2⟩ := hup j e (.pointer (some ⟨w.heap.size, 0, none⟩))
          rw [e1] at hf; rw [e2]; exact (hA j hj hf s hs).keep hbel
      · intro j k hj hk hjk hfj hfk hsj hsk
        by_cases ej : j = i
        · subst ej
          have ek : k ≠ j := fun h => hjk h.symm
          obtain ⟨e3, e4⟩ := hup k ek (.pointer (some ⟨w.heap.size, 0, none⟩))
          rw [e3] at hfk; rw [hself, e4]
          exact fun h => hold k hk hfk hsk h.symm
        · by_cases ek : k = i
          · subst ek
            obtain ⟨e1, e2⟩ := hup j ej (.pointer (some ⟨w.heap.size, 0, none⟩))
            rw [e1] at hfj; rw [hself, e2]
            exact hold j hj hfj hsj
          · obtain ⟨e1, e2⟩ := hup j ej (.pointer (some ⟨w.heap.size, 0, none⟩))
            obtain ⟨e3, e4⟩ := hup k ek (.pointer (some ⟨w.heap.size, 0, none⟩))
            rw [e1] at hfj; rw [e3] at hfk; rw [e2, e4]
            exact hne j k hj hk hjk hfj hfk hsj hsk
  · rintro f a w hfull ⟨_, v, rfl, hS, hV, hA, hne⟩
    rw [fillA_congr D f (fun _ => true) v n t0 hfull]
    exact tail v w hS (fun i hi hn => hV i hi (hfull i hi) hn) (fun i hi sz hs => hA i hi (hfull i hi) sz hs) (fun i j hi hj hij hsi hsj => hne i j hi hj hij (hfull i hi) (hfull j hj) hsi hsj)


theorem wp_region_ops {id : Nat} {Q : Exit → Act → World → Prop} {w : World} {l : List Oper} {t0 : Array Value} {df : List Deferred} (n : Nat) (D : Nat → Nat) (A : Nat → Option Nat) (V : Nat → Value → Prop) (S : World → Prop) (B : Nat)
    (hm : P.follows .mixedOrders = true) (hB : headB l.toArray n = true) (hD : ∀ i j, i < n → j < n → j ≠ i → D j ≠ D i) (hDs : ∀ i, i < n → D i < t0.size) (h0 : S w.drew) (hSB : ∀ w, S w → B ≤ w.heap.size)
    (hSa : ∀ w cs t, S w → S (w.alloc (.cells cs t)))
    (hval : ∀ i o, i < n → l[i]? = some o → A i = none → o.dst = some (D i) ∧ ∀ (a : Act) (w : World), S w → (∀ k, (∀ j, j < n → D j ≠ k) → a.tmps[k]? = t0[k]?) →
      (∀ j, (∃ e ∈ o.after, Region.binds .any e = true ∧ e.on = j) → j < n → A j = none → ∃ x, a.tmps[D j]? = some x ∧ V j x) → ∀ K : Act → World → Prop, (∀ x w', V i x → S w' → Below w.heap.size w w' → K (a.put (some (D i)) x) w') →
        if Region.wanted o (yielded l.toArray a.tmps) = true then o.wp P a w K Q else K (a.put (some (D i)) undef) w)
    (hall : ∀ i o sz, i < n → l[i]? = some o → A i = some sz → o.dst = some (D i) ∧ o.guard = none ∧ ∃ (t : TypeId) (cs : Array Value), cs.size = sz ∧ ∀ (a : Act) (w : World) (K : Act → World → Prop),
      K (a.put (some (D i)) (.pointer (some ⟨w.heap.size, 0, none⟩))) (w.alloc (.cells cs t)) → o.wp P a w K Q)
    (tail : ∀ (v : Nat → Value) (w : World), S w → (∀ i, i < n → A i = none → V i (v i)) → (∀ i, i < n → ∀ sz, A i = some sz → OwnRow B sz w (v i)) →
      (∀ i j, i < n → j < n → i ≠ j → (A i).isSome = true → (A j).isSome = true → v i ≠ v j) → wpList P l.toArray Q (l.drop n) ⟨fillA D (fun _ => true) v n t0, df⟩ w) :
    (Code.region id l.toArray true).wp P Q ⟨t0, df⟩ w :=
  wp_ops_core n D A V S B 0 (byInv_region hm hB) (fun j hj => absurd hj (Nat.not_lt_zero j)) hD hDs h0 hSB hSa (fun i o _ hi => hval i o hi) (fun i o sz _ hi => hall i o sz hi) tail
end Go.Proofs.Ytciakfhjjnmeeaa

namespace Go.Proofs.Ytciakfhjjnmeeaa
open Go.RowKit
variable {P : Program}

theorem if_always {o : Oper} {y : Nat → Option Bool} {p q : Prop} (h : o.guard = none) (hp : p) : if Region.wanted o y = true then p else q := by
  rw [if_pos (by simp [Region.wanted, h])]; exact hp

theorem yielded_at {ops : Array Oper} {t : Array Value} {j d : Nat} {b : Bool} (hd : (ops[j]?).bind (·.dst) = some d) (ht : t[d]? = some (.bool b)) : yielded ops t j = some b := by
  unfold yielded; rw [hd]; simp [ht]

theorem if_guard {o : Oper} {ops : Array Oper} {t : Array Value} {j d : Nat} {b : Bool} {p q : Prop} (h : o.guard = some (j, b)) (hd : (ops[j]?).bind (·.dst) = some d) (ht : t[d]? = some (.bool b)) (hp : p) : if Region.wanted o (yielded ops t) = true then p else q := by
  rw [if_pos (by simp [Region.wanted, h, yielded_at hd ht])]; exact hp

theorem if_guard_off {o : Oper} {ops : Array Oper} {t : Array Value} {j d : Nat} {b c : Bool} {p q : Prop} (h : o.guard = some (j, b)) (hd : (ops[j]?).bind (·.dst) = some d) (ht : t[d]? = some (.bool c)) (hbc : c ≠ b) (hq : q) : if Region.wanted o (yielded ops t) = true then p else q := by
  rw [if_neg (by simp [Region.wanted, h, yielded_at hd ht, hbc])]; exact hq

theorem wp_val {o : Oper} {a : Act} {w : World} {K : Act → World → Prop} {Q : Exit → Act → World → Prop} (v : Value) (hrun : (execOp a.eval o).run P w = .ok (.value v) w) (h : K (a.put o.dst v) w) : o.wp P a w K Q := by
  unfold Oper.wp
  rw [hrun, Oper.upon_value]
  exact h

theorem wp_move {o : Oper} {a : Act} {w : World} {K : Act → World → Prop} {Q : Exit → Act → World → Prop} (x : Operand) (v : Value) (ho : o.op = .move x) (hx : a.eval x = v) (h : K (a.put o.dst v) w) : o.wp P a w K Q := by
  refine wp_val v ?_ h
  unfold execOp; rw [ho]; subst hx; rfl

theorem wp_pick {o : Oper} {a : Act} {w : World} {K : Act → World → Prop} {Q : Exit → Act → World → Prop} (c x y : Operand) (b : Bool) (v : Value) (ho : o.op = .pick c x y) (hc : a.eval c = .bool b) (hx : (if b then a.eval x else a.eval y) = v)
    (h : K (a.put o.dst v) w) : o.wp P a w K Q := by
  refine wp_val v ?_ h
  unfold execOp; rw [ho]; subst hx
  cases b <;> simp [hc, asBool]

theorem wp_fn2 {o : Oper} {a : Act} {w : World} {K : Act → World → Prop} {Q : Exit → Act → World → Prop} (f : FuncId) (x y : Operand) (tys : Array TypeId) (u v : Value)
    (ho : o.op = .call { callee := .value (.func f), args := #[x, y], argTypes := tys }) (hx : a.eval x = u) (hy : a.eval y = v)
    (hf : ∀ (args : Array Value) (w : World), (callFunc f args).run P w = .ok (.enter f args) w) (h : Calls P f #[u, v] w fun e w' => ∃ r, e = .returned r ∧ K (a.put o.dst r) w') : o.wp P a w K Q := by
  subst hx; subst hy
  have hrun : (execOp a.eval o).run P w = .ok (.enter f #[a.eval x, a.eval y]) w := by
    unfold execOp
    rw [ho]
    have h0 := hf #[a.eval x, a.eval y] w
    have e : a.eval (Operand.func f) = Value.func (.func f) #[] #[] := rfl
    generalize a.eval = ρ at *
    simp [resolve, Deferred.ofValue, invoke, e, h0]
  unfold Oper.wp
  rw [hrun, Oper.upon_enter]
  exact h.mono fun e w' ⟨r, h1, h2⟩ => by subst h1; exact h2

theorem wp_fn0 {o : Oper} {a : Act} {w : World} {K : Act → World → Prop} {Q : Exit → Act → World → Prop} (f : FuncId) (tys : Array TypeId)
    (ho : o.op = .call { callee := .value (.func f), args := #[], argTypes := tys })
    (hf : ∀ (args : Array Value) (w : World), (callFunc f args).run P w = .ok (.enter f args) w) (h : Calls P f #[] w fun e w' => ∃ r, e = .returned r ∧ K (a.put o.dst r) w') : o.wp P a w K Q := by
  have hrun : (execOp a.eval o).run P w = .ok (.enter f #[]) w := by
    unfold execOp
    rw [ho]
    have h0 := hf #[] w
    have e : a.eval (Operand.func f) = Value.func (.func f) #[] #[] := rfl
    generalize a.eval = ρ at *
    simp [resolve, Deferred.ofValue, invoke, e, h0]
  unfold Oper.wp
  rw [hrun, Oper.upon_enter]
  exact h.mono fun e w' ⟨r, h1, h2⟩ => by subst h1; exact h2
end Go.Proofs.Ytciakfhjjnmeeaa

namespace Go.Proofs.Ytciakfhjjnmeeaa
open Go.RowKit
variable {P : Program}

/-- A call hands back a value that is so, and leaves what was there. -/
def Gives (V : Value → Prop) (w : World) (e : Ending) (w' : World) : Prop := ∃ r, e = .returned r ∧ V r ∧ Below w.heap.size w w'

/-- Does operation o wait for operation j? -/
def depB (o : Oper) (j : Nat) : Bool := o.after.toList.any fun e => Region.binds .any e && e.on == j

theorem depB_mem {o : Oper} {j : Nat} (h : depB o j = true) : ∃ e ∈ o.after, Region.binds .any e = true ∧ e.on = j := by
  obtain ⟨e, he, h2⟩ := List.any_eq_true.1 h
  simp only [Bool.and_eq_true, beq_iff_eq] at h2
  exact ⟨e, Array.mem_toList_iff.1 he, h2.1, h2.2⟩

theorem wp_core_all {G : Prop} {Q : Exit → Act → World → Prop} {w : World} {l : List Oper} {t0 : Array Value} {df : List Deferred} (n : Nat) (D : Nat → Nat) (V : Nat → Value → Prop) (S : World → Prop)
    (i0 : Nat) (hi0 : i0 ≤ n) (hinv : ByInv P Q l n i0 ⟨t0, df⟩ w G) (hpre : ∀ j, j < i0 → ∃ x, t0[D j]? = some x ∧ V j x) (hl : l.length = n + 1) (hD : ∀ i j, i < n + 1 → j < n + 1 → j ≠ i → D j ≠ D i) (hDs : ∀ i, i < n + 1 → D i < t0.size) (h0 : S w)
    (hSb : ∀ w w', S w → Below w.heap.size w w' → S w')
    (hval : ∀ i o, i0 ≤ i → i < n + 1 → l[i]? = some o → o.dst = some (D i) ∧ ∀ (a : Act) (w : World), S w → (∀ k, (∀ j, j < n + 1 → D j ≠ k) → a.tmps[k]? = t0[k]?) →
      (∀ j, depB o j = true → j < n → ∃ x, a.tmps[D j]? = some x ∧ V j x) → ∀ K : Act → World → Prop, (∀ x w', V i x → Below w.heap.size w w' → K (a.put (some (D i)) x) w') →
        if Region.wanted o (yielded l.toArray a.tmps) = true then o.wp P a w K Q else K (a.put (some (D i)) undef) w)
    (post : ∀ (t : Array Value) (w : World), t.size = t0.size → (∀ k, (∀ j, j < n + 1 → D j ≠ k) → t[k]? = t0[k]?) → (∀ j, j < n + 1 → ∃ x, t[D j]? = some x ∧ V j x) → S w → Q .normal ⟨t, df⟩ w) :
    G := by
  refine wp_ops_core n D (fun _ => none) V S 0 i0 hinv (fun j hj _ => ⟨rfl, hpre j hj⟩) (fun i j hi hj => hD i j (by omega) (by omega)) (fun i hi => hDs i (by omega)) h0 (fun _ _ => Nat.zero_le _) ?_ ?_ (fun i o sz _ _ _ h => by cases h) ?_
  · intro w cs t h; exact hSb _ _ h ((Below.refl _ _).alloc (Nat.le_refl _) _)
  · intro i o hi0' hi ho _
    obtain ⟨h1, h2⟩ := hval i o hi0' (by omega) ho
    exact ⟨h1, fun a w hS hold hin K hK => h2 a w hS (fun k hk => hold k (fun j hj => hk j (by omega))) (fun j hj hjn => hin j (depB_mem hj) hjn rfl) K (fun x w' hx hb => hK x w' hx (hSb _ _ hS hb) hb)⟩
  · intro v w hS hV _ _
    have hn : n < l.length := by omega
    have hdrop : l.drop n = [l[n]] := by
      rw [List.drop_eq_getElem_cons hn, List.drop_eq_nil_of_le (by omega)]
    rw [hdrop]
    obtain ⟨h1, h2⟩ := hval n l[n] hi0 (by omega) (List.getElem?_eq_getElem hn)
    have hsz : (fillA D (fun _ => true) v n t0).size = t0.size := fillA_size D _ v n t0
    have hget : ∀ j, j < n → (fillA D (fun _ => true) v n t0)[D j]? = some (v j) := fun j hj => fillA_get D _ v j n t0 hj rfl (hDs _ (by omega)) (fun k hk hne => hD _ k (by omega) (by omega) hne)
    refine wpList_step fun K hK => ?_
    rw [h1]
    refine h2 _ w hS (fun k hk => fillA_other D _ v k n t0 (fun j hj => hk j (by omega))) (fun j _ hj => ⟨v j, hget j hj, hV j hj rfl⟩) K (fun x w' hx hb => hK _ _ (wpList_nil ?_))
    refine post ((fillA D (fun _ => true) v n t0).setIfInBounds (D n) x) w' (by simp [hsz]) (fun k hk => ?_) (fun j hj => ?_) (hSb _ _ hS hb)
    · rw [Array.getElem?_setIfInBounds, if_neg (hk n (by omega))]
      exact fillA_other D _ v k n t0 (fun j hj => hk j (by omega))
    · by_cases e : j = n
      · subst e
        refine ⟨x, ?_, hx⟩
        rw [Array.getElem?_setIfInBounds, if_pos rfl, if_pos (by rw [hsz]; exact hDs _ (by omega))]
      · refine ⟨v j, ?_, hV j (by omega) rfl⟩
        rw [Array.getElem?_setIfInBounds, if_neg (hD j n (by omega) (by omega) (fun h => e h.symm))]
        exact hget j (by omega)

theorem wp_region_all {id : Nat} {Q : Exit → Act → World → Prop} {w : World} {l : List Oper} {t0 : Array Value} {df : List Deferred} (n : Nat) (D : Nat → Nat) (V : Nat → Value → Prop) (S : World → Prop)
    (hm : P.follows .mixedOrders = true) (hB : headB l.toArray n = true) (hl : l.length = n + 1) (hD : ∀ i j, i < n + 1 → j < n + 1 → j ≠ i → D j ≠ D i) (hDs : ∀ i, i < n + 1 → D i < t0.size) (h0 : S w.drew)
    (hSb : ∀ w w', S w → Below w.heap.size w w' → S w')
    (hval : ∀ i o, i < n + 1 → l[i]? = some o → o.dst = some (D i) ∧ ∀ (a : Act) (w : World), S w → (∀ k, (∀ j, j < n + 1 → D j ≠ k) → a.tmps[k]? = t0[k]?) →
      (∀ j, depB o j = true → j < n → ∃ x, a.tmps[D j]? = some x ∧ V j x) → ∀ K : Act → World → Prop, (∀ x w', V i x → Below w.heap.size w w' → K (a.put (some (D i)) x) w') →
        if Region.wanted o (yielded l.toArray a.tmps) = true then o.wp P a w K Q else K (a.put (some (D i)) undef) w)
    (post : ∀ (t : Array Value) (w : World), t.size = t0.size → (∀ k, (∀ j, j < n + 1 → D j ≠ k) → t[k]? = t0[k]?) → (∀ j, j < n + 1 → ∃ x, t[D j]? = some x ∧ V j x) → S w → Q .normal ⟨t, df⟩ w) :
    (Code.region id l.toArray true).wp P Q ⟨t0, df⟩ w :=
  wp_core_all n D V S 0 (Nat.zero_le _) (byInv_region hm hB) (fun j hj => absurd hj (Nat.not_lt_zero j)) hl hD hDs h0 hSb (fun i o _ hi => hval i o hi) post

theorem wp_list_all {Q : Exit → Act → World → Prop} {w : World} {l : List Oper} {t0 : Array Value} {df : List Deferred} (n : Nat) (D : Nat → Nat) (V : Nat → Value → Prop) (S : World → Prop)
    (hB : (backB l.toArray && decide (n ≤ l.length)) = true) (hl : l.length = n + 1) (hD : ∀ i j, i < n + 1 → j < n + 1 → j ≠ i → D j ≠ D i) (hDs : ∀ i, i < n + 1 → D i < t0.size) (h0 : S w)
    (hSb : ∀ w w', S w → Below w.heap.size w w' → S w')
    (hval : ∀ i o, i < n + 1 → l[i]? = some o → o.dst = some (D i) ∧ ∀ (a : Act) (w : World), S w → (∀ k, (∀ j, j < n + 1 → D j ≠ k) → a.tmps[k]? = t0[k]?) →
      (∀ j, depB o j = true → j < n → ∃ x, a.tmps[D j]? = some x ∧ V j x) → ∀ K : Act → World → Prop, (∀ x w', V i x → Below w.heap.size w w' → K (a.put (some (D i)) x) w') →
        if Region.wanted o (yielded l.toArray a.tmps) = true then o.wp P a w K Q else K (a.put (some (D i)) undef) w)
    (post : ∀ (t : Array Value) (w : World), t.size = t0.size → (∀ k, (∀ j, j < n + 1 → D j ≠ k) → t[k]? = t0[k]?) → (∀ j, j < n + 1 → ∃ x, t[D j]? = some x ∧ V j x) → S w → Q .normal ⟨t, df⟩ w) :
    wpList P l.toArray Q l ⟨t0, df⟩ w :=
  wp_core_all n D V S 0 (Nat.zero_le _) (byInv_list 0 (Nat.zero_le _) hB) (fun j hj => absurd hj (Nat.not_lt_zero j)) hl hD hDs h0 hSb (fun i o _ hi => hval i o hi) post

theorem wp_from_all {Q : Exit → Act → World → Prop} {w : World} {l : List Oper} {t0 : Array Value} {df : List Deferred} (n : Nat) (D : Nat → Nat) (V : Nat → Value → Prop) (S : World → Prop)
    (i0 : Nat) (hi0 : i0 ≤ n) (hB : (backB l.toArray && decide (n ≤ l.length)) = true) (hpre : ∀ j, j < i0 → ∃ x, t0[D j]? = some x ∧ V j x) (hl : l.length = n + 1) (hD : ∀ i j, i < n + 1 → j < n + 1 → j ≠ i → D j ≠ D i) (hDs : ∀ i, i < n + 1 → D i < t0.size) (h0 : S w)
    (hSb : ∀ w w', S w → Below w.heap.size w w' → S w')
    (hval : ∀ i o, i0 ≤ i → i < n + 1 → l[i]? = some o → o.dst = some (D i) ∧ ∀ (a : Act) (w : World), S w → (∀ k, (∀ j, j < n + 1 → D j ≠ k) → a.tmps[k]? = t0[k]?) →
      (∀ j, depB o j = true → j < n → ∃ x, a.tmps[D j]? = some x ∧ V j x) → ∀ K : Act → World → Prop, (∀ x w', V i x → Below w.heap.size w w' → K (a.put (some (D i)) x) w') →
        if Region.wanted o (yielded l.toArray a.tmps) = true then o.wp P a w K Q else K (a.put (some (D i)) undef) w)
    (post : ∀ (t : Array Value) (w : World), t.size = t0.size → (∀ k, (∀ j, j < n + 1 → D j ≠ k) → t[k]? = t0[k]?) → (∀ j, j < n + 1 → ∃ x, t[D j]? = some x ∧ V j x) → S w → Q .normal ⟨t, df⟩ w) :
    wpList P l.toArray Q (l.drop i0) ⟨t0, df⟩ w :=
  wp_core_all n D V S i0 hi0 (byInv_list i0 hi0 hB) hpre hl hD hDs h0 hSb hval post

/-- The region's head by what each slot holds; new variables in any order; its last operations are walked as a list. -/
theorem wp_core_most {G : Prop} {Q : Exit → Act → World → Prop} {w : World} {l : List Oper} {t0 : Array Value} {df : List Deferred} (n : Nat) (D : Nat → Nat) (A : Nat → Option Nat) (V : Nat → Value → Prop) (S : World → Prop) (B : Nat)
    (i0 : Nat) (hinv : ByInv P Q l n i0 ⟨t0, df⟩ w G) (hpre : ∀ j, j < i0 → j < n → A j = none ∧ ∃ x, t0[D j]? = some x ∧ V j x) (hD : ∀ i j, i < n → j < n → j ≠ i → D j ≠ D i) (hDs : ∀ i, i < n → D i < t0.size) (h0 : S w) (hSB : ∀ w, S w → B ≤ w.heap.size)
    (hSb : ∀ w w', S w → Below w.heap.size w w' → S w')
    (hval : ∀ i o, i0 ≤ i → i < n → l[i]? = some o → A i = none → o.dst = some (D i) ∧ ∀ (a : Act) (w : World), S w → (∀ k, (∀ j, j < n → D j ≠ k) → a.tmps[k]? = t0[k]?) →
      (∀ j, depB o j = true → j < n → A j = none → ∃ x, a.tmps[D j]? = some x ∧ V j x) → ∀ K : Act → World → Prop, (∀ x w', V i x → Below w.heap.size w w' → K (a.put (some (D i)) x) w') →
        if Region.wanted o (yielded l.toArray a.tmps) = true then o.wp P a w K Q else K (a.put (some (D i)) undef) w)
    (hall : ∀ i o sz, i0 ≤ i → i < n → l[i]? = some o → A i = some sz → o.dst = some (D i) ∧ o.guard = none ∧ ∃ (t : TypeId) (cs : Array Value), cs.size = sz ∧ ∀ (a : Act) (w : World) (K : Act → World → Prop),
      K (a.put (some (D i)) (.pointer (some ⟨w.heap.size, 0, none⟩))) (w.alloc (.cells cs t)) → o.wp P a w K Q)
    (tail : ∀ (t : Array Value) (w : World), t.size = t0.size → (∀ k, (∀ j, j < n → D j ≠ k) → t[k]? = t0[k]?) → (∀ j, j < n → A j = none → ∃ x, t[D j]? = some x ∧ V j x) →
      (∀ j, j < n → ∀ sz, A j = some sz → ∃ g, t[D j]? = some (.pointer (some ⟨g, 0, none⟩)) ∧ B ≤ g ∧ ∃ ty cs, w.heap[g]? = some (.cells cs ty (0, 0)) ∧ cs.size = sz) →
      (∀ i j, i < n → j < n → i ≠ j → (A i).isSome = true → (A j).isSome = true → t[D i]? ≠ t[D j]?) → S w → wpList P l.toArray Q (l.drop n) ⟨t, df⟩ w) :
    G := by
  refine wp_ops_core n D A V S B i0 hinv hpre hD hDs h0 hSB ?_ ?_ hall ?_
  · intro w cs t h; exact hSb _ _ h ((Below.refl _ _).alloc (Nat.le_refl _) _)
  · intro i o hi0' hi ho hA
    obtain ⟨h1, h2⟩ := hval i o hi0' hi ho hA
    exact ⟨h1, fun a w hS hold hin K hK => h2 a w hS hold (fun j hj hjn hAj => hin j (depB_mem hj) hjn hAj) K (fun x w' hx hb => hK x w' hx (hSb _ _ hS hb) hb)⟩
  · intro v w hS hV hA hne
    have hget : ∀ j, j < n → (fillA D (fun _ => true) v n t0)[D j]? = some (v j) := fun j hj => fillA_get D _ v j n t0 hj rfl (hDs _ hj) (fun k hk hne => hD _ k hj hk hne)
    refine tail _ w (fillA_size D _ v n t0) (fun k hk => fillA_other D _ v k n t0 hk) (fun j hj hAj => ⟨v j, hget j hj, hV j hj hAj⟩) (fun j hj sz hs => ?_) (fun i j hi hj hij hsi hsj => ?_) hS
    · obtain ⟨g, t, cs, h1, h2, h3, h4⟩ := hA j hj sz hs
      exact ⟨g, by rw [hget j hj, h1], h2, t, cs, h3, h4⟩
    · rw [hget i hi, hget j hj]
      exact fun h => hne i j hi hj hij hsi hsj (Option.some.inj h)

theorem wp_region_most {id : Nat} {Q : Exit → Act → World → Prop} {w : World} {l : List Oper} {t0 : Array Value} {df : List Deferred} (n : Nat) (D : Nat → Nat) (A : Nat → Option Nat) (V : Nat → Value → Prop) (S : World → Prop) (B : Nat)
    (hm : P.follows .mixedOrders = true) (hB : headB l.toArray n = true) (hD : ∀ i j, i < n → j < n → j ≠ i → D j ≠ D i) (hDs : ∀ i, i < n → D i < t0.size) (h0 : S w.drew) (hSB : ∀ w, S w → B ≤ w.heap.size)
    (hSb : ∀ w w', S w → Below w.heap.size w w' → S w')
    (hval : ∀ i o, i < n → l[i]? = some o → A i = none → o.dst = some (D i) ∧ ∀ (a : Act) (w : World), S w → (∀ k, (∀ j, j < n → D j ≠ k) → a.tmps[k]? = t0[k]?) →
      (∀ j, depB o j = true → j < n → A j = none → ∃ x, a.tmps[D j]? = some x ∧ V j x) → ∀ K : Act → World → Prop, (∀ x w', V i x → Below w.heap.size w w' → K (a.put (some (D i)) x) w') →
        if Region.wanted o (yielded l.toArray a.tmps) = true then o.wp P a w K Q else K (a.put (some (D i)) undef) w)
    (hall : ∀ i o sz, i < n → l[i]? = some o → A i = some sz → o.dst = some (D i) ∧ o.guard = none ∧ ∃ (t : TypeId) (cs : Array Value), cs.size = sz ∧ ∀ (a : Act) (w : World) (K : Act → World → Prop),
      K (a.put (some (D i)) (.pointer (some ⟨w.heap.size, 0, none⟩))) (w.alloc (.cells cs t)) → o.wp P a w K Q)
    (tail : ∀ (t : Array Value) (w : World), t.size = t0.size → (∀ k, (∀ j, j < n → D j ≠ k) → t[k]? = t0[k]?) → (∀ j, j < n → A j = none → ∃ x, t[D j]? = some x ∧ V j x) →
      (∀ j, j < n → ∀ sz, A j = some sz → ∃ g, t[D j]? = some (.pointer (some ⟨g, 0, none⟩)) ∧ B ≤ g ∧ ∃ ty cs, w.heap[g]? = some (.cells cs ty (0, 0)) ∧ cs.size = sz) →
      (∀ i j, i < n → j < n → i ≠ j → (A i).isSome = true → (A j).isSome = true → t[D i]? ≠ t[D j]?) → S w → wpList P l.toArray Q (l.drop n) ⟨t, df⟩ w) :
    (Code.region id l.toArray true).wp P Q ⟨t0, df⟩ w :=
  wp_core_most n D A V S B 0 (byInv_region hm hB) (fun j hj => absurd hj (Nat.not_lt_zero j)) hD hDs h0 hSB hSb (fun i o _ hi => hval i o hi) (fun i o sz _ hi => hall i o sz hi) tail

theorem wp_list_most {Q : Exit → Act → World → Prop} {w : World} {l : List Oper} {t0 : Array Value} {df : List Deferred} (n : Nat) (D : Nat → Nat) (A : Nat → Option Nat) (V : Nat → Value → Prop) (S : World → Prop) (B : Nat)
    (hB : (backB l.toArray && decide (n ≤ l.length)) = true) (hD : ∀ i j, i < n → j < n → j ≠ i → D j ≠ D i) (hDs : ∀ i, i < n → D i < t0.size) (h0 : S w) (hSB : ∀ w, S w → B ≤ w.heap.size)
    (hSb : ∀ w w', S w → Below w.heap.size w w' → S w')
    (hval : ∀ i o, i < n → l[i]? = some o → A i = none → o.dst = some (D i) ∧ ∀ (a : Act) (w : World), S w → (∀ k, (∀ j, j < n → D j ≠ k) → a.tmps[k]? = t0[k]?) →
      (∀ j, depB o j = true → j < n → A j = none → ∃ x, a.tmps[D j]? = some x ∧ V j x) → ∀ K : Act → World → Prop, (∀ x w', V i x → Below w.heap.size w w' → K (a.put (some (D i)) x) w') →
        if Region.wanted o (yielded l.toArray a.tmps) = true then o.wp P a w K Q else K (a.put (some (D i)) undef) w)
    (hall : ∀ i o sz, i < n → l[i]? = some o → A i = some sz → o.dst = some (D i) ∧ o.guard = none ∧ ∃ (t : TypeId) (cs : Array Value), cs.size = sz ∧ ∀ (a : Act) (w : World) (K : Act → World → Prop),
      K (a.put (some (D i)) (.pointer (some ⟨w.heap.size, 0, none⟩))) (w.alloc (.cells cs t)) → o.wp P a w K Q)
    (tail : ∀ (t : Array Value) (w : World), t.size = t0.size → (∀ k, (∀ j, j < n → D j ≠ k) → t[k]? = t0[k]?) → (∀ j, j < n → A j = none → ∃ x, t[D j]? = some x ∧ V j x) →
      (∀ j, j < n → ∀ sz, A j = some sz → ∃ g, t[D j]? = some (.pointer (some ⟨g, 0, none⟩)) ∧ B ≤ g ∧ ∃ ty cs, w.heap[g]? = some (.cells cs ty (0, 0)) ∧ cs.size = sz) →
      (∀ i j, i < n → j < n → i ≠ j → (A i).isSome = true → (A j).isSome = true → t[D i]? ≠ t[D j]?) → S w → wpList P l.toArray Q (l.drop n) ⟨t, df⟩ w) :
    wpList P l.toArray Q l ⟨t0, df⟩ w :=
  wp_core_most n D A V S B 0 (byInv_list 0 (Nat.zero_le _) hB) (fun j hj => absurd hj (Nat.not_lt_zero j)) hD hDs h0 hSB hSb (fun i o _ hi => hval i o hi) (fun i o sz _ hi => hall i o sz hi) tail

theorem wp_from_most {Q : Exit → Act → World → Prop} {w : World} {l : List Oper} {t0 : Array Value} {df : List Deferred} (n : Nat) (D : Nat → Nat) (A : Nat → Option Nat) (V : Nat → Value → Prop) (S : World → Prop) (B : Nat)
    (i0 : Nat) (hi0 : i0 ≤ n) (hB : (backB l.toArray && decide (n ≤ l.length)) = true) (hpre : ∀ j, j < i0 → j < n → A j = none ∧ ∃ x, t0[D j]? = some x ∧ V j x) (hD : ∀ i j, i < n → j < n → j ≠ i → D j ≠ D i) (hDs : ∀ i, i < n → D i < t0.size) (h0 : S w) (hSB : ∀ w, S w → B ≤ w.heap.size)
    (hSb : ∀ w w', S w → Below w.heap.size w w' → S w')
    (hval : ∀ i o, i0 ≤ i → i < n → l[i]? = some o → A i = none → o.dst = some (D i) ∧ ∀ (a : Act) (w : World), S w → (∀ k, (∀ j, j < n → D j ≠ k) → a.tmps[k]? = t0[k]?) →
      (∀ j, depB o j = true → j < n → A j = none → ∃ x, a.tmps[D j]? = some x ∧ V j x) → ∀ K : Act → World → Prop, (∀ x w', V i x → Below w.heap.size w w' → K (a.put (some (D i)) x) w') →
        if Region.wanted o (yielded l.toArray a.tmps) = true then o.wp P a w K Q else K (a.put (some (D i)) undef) w)
    (hall : ∀ i o sz, i0 ≤ i → i < n → l[i]? = some o → A i = some sz → o.dst = some (D i) ∧ o.guard = none ∧ ∃ (t : TypeId) (cs : Array Value), cs.size = sz ∧ ∀ (a : Act) (w : World) (K : Act → World → Prop),
      K (a.put (some (D i)) (.pointer (some ⟨w.heap.size, 0, none⟩))) (w.alloc (.cells cs t)) → o.wp P a w K Q)
    (tail : ∀ (t : Array Value) (w : World), t.size = t0.size → (∀ k, (∀ j, j < n → D j ≠ k) → t[k]? = t0[k]?) → (∀ j, j < n → A j = none → ∃ x, t[D j]? = some x ∧ V j x) →
      (∀ j, j < n → ∀ sz, A j = some sz → ∃ g, t[D j]? = some (.pointer (some ⟨g, 0, none⟩)) ∧ B ≤ g ∧ ∃ ty cs, w.heap[g]? = some (.cells cs ty (0, 0)) ∧ cs.size = sz) →
      (∀ i j, i < n → j < n → i ≠ j → (A i).isSome = true → (A j).isSome = true → t[D i]? ≠ t[D j]?) → S w → wpList P l.toArray Q (l.drop n) ⟨t, df⟩ w) :
    wpList P l.toArray Q (l.drop i0) ⟨t0, df⟩ w :=
  wp_core_most n D A V S B i0 (byInv_list i0 hi0 hB) hpre hD hDs h0 hSB hSb hval hall tail

/-- A frame is the old one with the slots filled. -/
theorem frame_fill {t t0 : Array Value} (n : Nat) (D : Nat → Nat) (hs : t.size = t0.size) (hold : ∀ k, (∀ j, j < n → D j ≠ k) → t[k]? = t0[k]?) (hD : ∀ i j, i < n → j < n → j ≠ i → D j ≠ D i) (hDs : ∀ i, i < n → D i < t0.size) :
    t = fillA D (fun _ => true) (fun j => t.getD (D j) undef) n t0 := by
  apply Array.ext_getElem?
  intro k
  by_cases h : ∃ j, j < n ∧ D j = k
  · obtain ⟨j, hj, rfl⟩ := h
    rw [fillA_get D _ _ j n t0 hj rfl (hDs j hj) (fun i hi hne => hD j i hj hi hne), Array.getD_eq_getD_getElem?]
    have : D j < t.size := by rw [hs]; exact hDs j hj
    simp [this]
  · have h' : ∀ j, j < n → D j ≠ k := fun j hj he => h ⟨j, hj, he⟩
    rw [fillA_other D _ _ k n t0 h', hold k h']

/-- A variable without a row, at the end of a region. -/
theorem tl_assign {ops : Array Oper} {rest : List Oper} {o : Oper} {Q : Exit → Act → World → Prop} {t : Array Value} {df : List Deferred} {w : World} (hgd : o.guard = none) (x : Operand) (ho : o.op = .assign x) (d : Nat) (hd : o.dst = some d) (hds : d < t.size) (u : Value) (hx : Act.eval ⟨t, df⟩ x = u)
    (h : ∀ t', t'.size = t.size → t'[d]? = some u → (∀ k, k ≠ d → t'[k]? = t[k]?) → wpList P ops Q rest ⟨t', df⟩ w) : wpList P ops Q (o :: rest) ⟨t, df⟩ w := by
  refine wpList_step fun K hK => if_always hgd ?_
  refine wp_val u (by unfold execOp; rw [ho]; subst hx; rfl) (hK _ _ ?_)
  rw [hd]
  exact h (t.setIfInBounds d u) (by simp) (by simp [hds]) (fun k hk => by rw [Array.getElem?_setIfInBounds, if_neg (fun e => hk e.symm)])

/-- A list of operations that a walk is to leave alone. -/
def Held (p : Prop) : Prop := p
theorem held_load {ops : Array Oper} {rest : List Oper} {o : Oper} {Q : Exit → Act → World → Prop} {a : Act} {w : World} (ty : TypeId) (x : Operand) (_ : o.op = .load ty x) (h : Held (wpList P ops Q (o :: rest) a w)) : wpList P ops Q (o :: rest) a w := h
theorem held_call {ops : Array Oper} {rest : List Oper} {o : Oper} {Q : Exit → Act → World → Prop} {a : Act} {w : World} (c : Call) (_ : o.op = .call c) (h : Held (wpList P ops Q (o :: rest) a w)) : wpList P ops Q (o :: rest) a w := h
theorem hide_held {ops : Array Oper} {rest : List Oper} {Q : Exit → Act → World → Prop} {t : Array Value} {df : List Deferred} {w : World} (h : ∀ t0, t0 = t → wpList P ops Q rest ⟨t0, df⟩ w) : Held (wpList P ops Q rest ⟨t, df⟩ w) := h _ rfl

theorem hide_list {ops : Array Oper} {rest : List Oper} {Q : Exit → Act → World → Prop} {t : Array Value} {df : List Deferred} {w : World} (h : ∀ t0, t0 = t → wpList P ops Q rest ⟨t0, df⟩ w) : wpList P ops Q rest ⟨t, df⟩ w := h _ rfl

theorem hide_frame {c : Code} {Q : Exit → Act → World → Prop} {t : Array Value} {df : List Deferred} {w : World} (h : ∀ t0, t0 = t → c.wp P Q ⟨t0, df⟩ w) : c.wp P Q ⟨t, df⟩ w := h _ rfl

/-- A frame, slot by slot. -/
theorem wash {t : Array Value} {n : Nat} (h : t.size = n) : ∃ f : Nat → Value, t = ((List.range n).map f).toArray ∧ ∀ k x, t[k]? = some x → f k = x := by
  refine ⟨fun k => t.getD k undef, ?_, fun k x hx => by simp [Array.getD_eq_getD_getElem?, hx]⟩
  apply Array.ext
  · simp [h]
  · intro i h1 h2
    simp [Array.getD_eq_getD_getElem?, h1]

section
variable {o : Oper} {a : Act} {w : World} {Q : Exit → Act → World → Prop} {V : Value → Prop} {d : Nat} {K : Act → World → Prop}
theorem op_fn1 (f : FuncId) (x : Operand) (tys : Array TypeId) (u : Value)
    (ho : o.op = .call { callee := .value (.func f), args := #[x], argTypes := tys }) (hd : o.dst = some d) (hx : a.eval x = u)
    (hf : ∀ (args : Array Value) (w : World), (callFunc f args).run P w = .ok (.enter f args) w) (h : Calls P f #[u] w (Gives V w))
    (hK : ∀ x w', V x → Below w.heap.size w w' → K (a.put (some d) x) w') : o.wp P a w K Q :=
  wp_fn1 f x tys u ho hx hf (h.mono fun e w' ⟨r, h1, h2, h3⟩ => ⟨r, h1, by rw [hd]; exact hK r w' h2 h3⟩)
theorem op_fn2 (f : FuncId) (x y : Operand) (tys : Array TypeId) (u v : Value)
    (ho : o.op = .call { callee := .value (.func f), args := #[x, y], argTypes := tys }) (hd : o.dst = some d) (hx : a.eval x = u) (hy : a.eval y = v)
    (hf : ∀ (args : Array Value) (w : World), (callFunc f args).run P w = .ok (.enter f args) w) (h : Calls P f #[u, v] w (Gives V w))
    (hK : ∀ x w', V x → Below w.heap.size w w' → K (a.put (some d) x) w') : o.wp P a w K Q :=
  wp_fn2 f x y tys u v ho hx hy hf (h.mono fun e w' ⟨r, h1, h2, h3⟩ => ⟨r, h1, by rw [hd]; exact hK r w' h2 h3⟩)
theorem op_fn3 (f : FuncId) (x y z : Operand) (tys : Array TypeId) (u v s : Value)
    (ho : o.op = .call { callee := .value (.func f), args := #[x, y, z], argTypes := tys }) (hd : o.dst = some d) (hx : a.eval x = u) (hy : a.eval y = v) (hz : a.eval z = s)
    (hf : ∀ (args : Array Value) (w : World), (callFunc f args).run P w = .ok (.enter f args) w) (h : Calls P f #[u, v, s] w (Gives V w))
    (hK : ∀ x w', V x → Below w.heap.size w w' → K (a.put (some d) x) w') : o.wp P a w K Q := by
  subst hx; subst hy; subst hz
  have hrun : (execOp a.eval o).run P w = .ok (.enter f #[a.eval x, a.eval y, a.eval z]) w := by
    unfold execOp
    rw [ho]
    have h0 := hf #[a.eval x, a.eval y, a.eval z] w
    have e : a.eval (Operand.func f) = Value.func (.func f) #[] #[] := rfl
    generalize a.eval = ρ at *
    simp [resolve, Deferred.ofValue, invoke, e, h0]
  unfold Oper.wp
  rw [hrun, Oper.upon_enter]
  exact h.mono fun e w' ⟨r, h1, h2, h3⟩ => by subst h1; rw [hd]; exact hK r w' h2 h3
theorem op_fn0 (f : FuncId) (tys : Array TypeId)
    (ho : o.op = .call { callee := .value (.func f), args := #[], argTypes := tys }) (hd : o.dst = some d)
    (hf : ∀ (args : Array Value) (w : World), (callFunc f args).run P w = .ok (.enter f args) w) (h : Calls P f #[] w (Gives V w))
    (hK : ∀ x w', V x → Below w.heap.size w w' → K (a.put (some d) x) w') : o.wp P a w K Q :=
  wp_fn0 f tys ho hf (h.mono fun e w' ⟨r, h1, h2, h3⟩ => ⟨r, h1, by rw [hd]; exact hK r w' h2 h3⟩)
theorem op_ld (ty : TypeId) (x : Operand) (ho : o.op = .load ty x) (hd : o.dst = some d)
    (g : Nat) (hx : a.eval x = .pointer (some ⟨g, 0, none⟩)) (cs : Array Value) (t : TypeId) (hg : w.heap[g]? = some (.cells cs t (0, 0))) (n : Nat) (hT : RowT P ty n) (hn : cs.size = n) (hV : V (.agg cs))
    (hK : ∀ x w', V x → Below w.heap.size w w' → K (a.put (some d) x) w') : o.wp P a w K Q := by
  obtain ⟨d', h1, h2, h3⟩ := hT
  subst hn
  exact wp_load_row ty x ho g hx t cs (0, 0) d' hg h1 (by cases d' <;> simp_all) h3 (by rw [hd]; exact hK _ _ hV (Below.refl _ _))
theorem op_move (x : Operand) (u : Value) (ho : o.op = .move x) (hd : o.dst = some d) (hx : a.eval x = u) (hV : V u)
    (hK : ∀ x w', V x → Below w.heap.size w w' → K (a.put (some d) x) w') : o.wp P a w K Q :=
  wp_move x u ho hx (by rw [hd]; exact hK _ _ hV (Below.refl _ _))
theorem op_assign (x : Operand) (u : Value) (ho : o.op = .assign x) (hd : o.dst = some d) (hx : a.eval x = u) (hV : V u)
    (hK : ∀ x w', V x → Below w.heap.size w w' → K (a.put (some d) x) w') : o.wp P a w K Q :=
  wp_val u (by unfold execOp; rw [ho]; subst hx; rfl) (by rw [hd]; exact hK _ _ hV (Below.refl _ _))
theorem op_pick (c x y : Operand) (b : Bool) (u : Value) (ho : o.op = .pick c x y) (hd : o.dst = some d) (hc : a.eval c = .bool b) (hx : (if b then a.eval x else a.eval y) = u) (hV : V u)
    (hK : ∀ x w', V x → Below w.heap.size w w' → K (a.put (some d) x) w') : o.wp P a w K Q :=
  wp_pick c x y b u ho hc hx (by rw [hd]; exact hK _ _ hV (Below.refl _ _))
theorem op_val (u : Value) (hd : o.dst = some d) (hrun : (execOp a.eval o).run P w = .ok (.value u) w) (hV : V u)
    (hK : ∀ x w', V x → Below w.heap.size w w' → K (a.put (some d) x) w') : o.wp P a w K Q :=
  wp_val u hrun (by rw [hd]; exact hK _ _ hV (Below.refl _ _))
theorem op_bin (bo : BinOp) (ty ty' : TypeId) (x y : Operand) (u v r : Value) (ho : o.op = .binOp bo ty x y ty') (hd : o.dst = some d) (hx : a.eval x = u) (hy : a.eval y = v)
    (hrun : ∀ w, (do eqGuard bo ty x y u v; binOp bo ty u v : Sem Value).run P w = .ok r w) (hV : V r)
    (hK : ∀ x w', V x → Below w.heap.size w w' → K (a.put (some d) x) w') : o.wp P a w K Q := by
  refine op_val r hd ?_ hV hK
  subst hx; subst hy
  unfold execOp; rw [ho]
  show ((do let z ← (do eqGuard bo ty x y (a.eval x) (a.eval y); binOp bo ty (a.eval x) (a.eval y)); pure (Next.value z)) : Sem Next).run P w = _
  rw [Sem.run_bind, hrun w]
  rfl
theorem op_un (uo : UnOp) (ty : TypeId) (x : Operand) (u r : Value) (ho : o.op = .unOp uo ty x) (hd : o.dst = some d) (hx : a.eval x = u)
    (hrun : ∀ w, (Op.unary uo u).run P w = .ok r w) (hV : V r)
    (hK : ∀ x w', V x → Below w.heap.size w w' → K (a.put (some d) x) w') : o.wp P a w K Q := by
  refine op_val r hd ?_ hV hK
  subst hx
  unfold execOp; rw [ho]
  show ((do let z ← Op.unary uo (a.eval x); pure (Next.value z)) : Sem Next).run P w = _
  rw [Sem.run_bind, hrun w]
  rfl
end
end Go.Proofs.Ytciakfhjjnmeeaa

namespace Go.Proofs.Ytciakfhjjnmeeaa
open Go.RowKit Nt

theorem tElem : RowT Try.prog 26 5 := ⟨_, Try.underlying26, rfl, by kernel_rfl⟩
theorem tLimbs : RowT Try.prog 24 5 := ⟨_, Try.underlying24, rfl, by kernel_rfl⟩
theorem tBytes : RowT Try.prog 22 32 := ⟨_, Try.underlying22, rfl, by kernel_rfl⟩

/-- The value of an Elem. -/
abbrev ev (z0 z1 z2 z3 z4 : Int) : Value := .agg #[.int .u64 z0, .int .u64 z1, .int .u64 z2, .int .u64 z3, .int .u64 z4]

theorem ev_one (z0 z1 z2 z3 z4 : Int) : (#[.int .u64 z0, .int .u64 z1, .int .u64 z2, .int .u64 z3, .int .u64 z4] : Array Value).all (·.oneCell') = true := by simp [Value.oneCell']

/-- An Elem that is the number n comes back; nothing that was there is turned. -/
def ElemOut (n : F) (w : World) (e : Ending) (w' : World) : Prop :=
  ∃ z0 z1 z2 z3 z4 : Int, e = .returned (ev z0 z1 z2 z3 z4) ∧ El z0 z1 z2 z3 z4 n ∧ Below w.heap.size w w'

set_option maxHeartbeats 1000000 in
theorem carried_raw (l0 l1 l2 l3 l4 : Int) (w : World) (_a0 : 0 ≤ l0) (_b0 : l0 < 18446744073709551616) (_a1 : 0 ≤ l1) (_b1 : l1 < 18446744073709551616) (_a2 : 0 ≤ l2) (_b2 : l2 < 18446744073709551616) (_a3 : 0 ≤ l3) (_b3 : l3 < 18446744073709551616) (_a4 : 0 ≤ l4) (_b4 : l4 < 18446744073709551616) :
    Calls Try.prog 65 #[ev l0 l1 l2 l3 l4] w fun e w' => e = .returned (ev (IntKind.u64.wrap (bits .and .u64 l0 2251799813685247 + 19 * (l4 / 2251799813685248))) (IntKind.u64.wrap (bits .and .u64 l1 2251799813685247 + l0 / 2251799813685248))
      (IntKind.u64.wrap (bits .and .u64 l2 2251799813685247 + l1 / 2251799813685248)) (IntKind.u64.wrap (bits .and .u64 l3 2251799813685247 + l2 / 2251799813685248))
      (IntKind.u64.wrap (bits .and .u64 l4 2251799813685247 + l3 / 2251799813685248))) ∧ Below w.heap.size w w' := by
  go_enter Try.func65, Try.ntmps65
  go_wp2
  refine wp_loop_rounds 5 ?_
  iterate 4 (rw [rounds_succ]; go_wp2; go_region; go_wp2)
  rw [rounds_succ]; go_wp2
  go_returns
  refine ⟨rfl, ?_⟩
  go_grown

theorem carried_any (l0 l1 l2 l3 l4 : Int) (n : F) (w : World) (h : Wd l0 l1 l2 l3 l4 n) :
    Calls Try.prog 65 #[ev l0 l1 l2 l3 l4] w (ElemOut n w) := by
  have H := carry_el h
  obtain ⟨⟨a0, b0⟩, ⟨a1, b1⟩, ⟨a2, b2⟩, ⟨a3, b3⟩, ⟨a4, b4⟩, _⟩ := h
  exact (carried_raw l0 l1 l2 l3 l4 w a0 b0 a1 b1 a2 b2 a3 b3 a4 b4).mono fun _ _ ⟨h1, h2⟩ => ⟨_, _, _, _, _, h1, H, h2⟩

/-- Tight limbs out of good ones. -/
def TightOut (n : F) (w : World) (e : Ending) (w' : World) : Prop :=
  ∃ z0 z1 z2 z3 z4 : Int, e = .returned (ev z0 z1 z2 z3 z4) ∧ Tight z0 z1 z2 z3 z4 n ∧ Below w.heap.size w w'

theorem carried_tight (l0 l1 l2 l3 l4 : Int) (n : F) (w : World) (h : El l0 l1 l2 l3 l4 n) :
    Calls Try.prog 65 #[ev l0 l1 l2 l3 l4] w (TightOut n w) := by
  have H := carry_tight h
  obtain ⟨⟨a0, b0⟩, ⟨a1, b1⟩, ⟨a2, b2⟩, ⟨a3, b3⟩, ⟨a4, b4⟩, _⟩ := h
  exact (carried_raw l0 l1 l2 l3 l4 w a0 (by omega) a1 (by omega) a2 (by omega) a3 (by omega) a4 (by omega)).mono fun _ _ ⟨h1, h2⟩ => ⟨_, _, _, _, _, h1, H, h2⟩

theorem or_byte (v x : Int) (hv : 0 ≤ v) (hv' : 256 * v < 18446744073709551616) (hx : 0 ≤ x) (hx' : x < 256) : bits .or .u64 (v * 256) x = x + 256 * v := by
  go_bits2

/-- Eight bytes of memory as a word. -/
theorem word_any (l : List Int) (b o cap : Nat) (w : World) (hl : l.length = 8) (hb : Byt l) (hc : ∀ j, j < 8 → w.cell? ⟨b, o + j, none⟩ = some (.int .u8 (nth l j))) :
    Calls Try.prog 66 #[.slice (some ⟨b, o, none⟩) 8 cap] w fun e w' => e = .returned (.int .u64 (num l)) ∧ w = w' := by
  have HC := Lib.hid hc
  have HL := Lib.hid hl
  clear hc hl
  go_enter Try.func66, Try.ntmps66
  go_wp2
  go_loop [3, 4] (fun v i => ∃ k : Nat, k ≤ 8 ∧ i = .int .i64 ((k : Int) - 1) ∧ v = .int .u64 (num (l.drop k))) (fun _ i => (intOf i + 1).toNat)
  case atStart => exact ⟨8, by omega, rfl, by rw [List.drop_of_length_le (by rw [HL.out]; omega)]; rfl⟩
  case round =>
    obtain ⟨k, hk, rfl, rfl⟩ := hrel
    by_cases h0 : k = 0
    · subst h0
      go_wp2
      go_ret
      exact ⟨rfl, rfl⟩
    · obtain ⟨m, rfl⟩ : ∃ m, k = m + 1 := ⟨k - 1, by omega⟩
      have hcell := HC.out m (by omega)
      have hx := hb.nth m
      have HN := Lib.hid (num_drop l m (by rw [HL.out]; omega))
      have hv := num_drop_bound hb (m + 1) 7 (by rw [HL.out]; omega)
      go_wp2
      go_round
      case rel => exact ⟨m, by omega, by go_num, by rw [or_byte _ _ hv.1 (by omega) hx.1 hx.2, HN.out]⟩
      case measure => simp [intOf]

/-- Eight bytes out of a block of bytes. -/
theorem word_row (l : List Int) (b o cap : Nat) (T : TypeId) (w : World) (hl : l.length = 32) (ho : o + 8 ≤ 32) (hb : Byt l) (hc : w.heap[b]? = some (.cells (vals l) T (0, 0))) :
    Calls Try.prog 66 #[.slice (some ⟨b, o, none⟩) 8 cap] w fun e w' => e = .returned (.int .u64 (num ((l.drop o).take 8))) ∧ w' = w :=
  (word_any ((l.drop o).take 8) b o cap w (by simp; omega) ((hb.drop o).take 8) (fun j hj => by
    rw [cell_of_row w b (o + j) _ T _ hc, vals_get (by omega), nth_drop_take _ _ _ _ hj])).mono fun _ _ ⟨h1, h2⟩ => ⟨h1, h2.symm⟩

set_option maxHeartbeats 1000000 in
set_option maxRecDepth 100000 in
/-- The number of 32 bytes. -/
theorem of_any (l : List Int) (w : World) (hl : l.length = 32) (hb : Byt l) :
    Calls Try.prog 19 #[.agg (vals l)] w (ElemOut (numF l) w) := by
  go_enter Try.func19, Try.ntmps19
  go_wp2
  have hr : ((w.alloc (Obj.cells (vals l) 22)).alloc (Obj.cells #[.int .u64 0, .int .u64 0, .int .u64 0, .int .u64 0, .int .u64 0] 26)).heap[w.heap.size]? = some (.cells (vals l) 22 (0, 0)) := heap_alloc2_old _ _ _
  go_still_tail 20, (by kernel_rfl)
  still_call (word_row l _ _ _ _ _ hl (by omega) hb hr)
  repeat still_step
  still_call (word_row l _ _ _ _ _ hl (by omega) hb hr)
  repeat still_step
  still_call (word_row l _ _ _ _ _ hl (by omega) hb hr)
  repeat still_step
  still_call (word_row l _ _ _ _ _ hl (by omega) hb hr)
  repeat still_step
  still_call (word_row l _ _ _ _ _ hl (by omega) hb hr)
  repeat still_step
  try refine wpStill_nil ?_
  change wpList _ _ _ _ _ (World.drew _)
  clear hr
  go_wp2_with fail
  refine (carried_any _ _ _ _ _ (numF l) _ (of_limbs l hl hb)).mono ?_
  · rintro e w1 ⟨z0, z1, z2, z3, z4, rfl, hz, hb1⟩
    have HR := (hb1.block (w.heap.size + 1) (by simp)).trans (heap_alloc2_new w (Obj.cells (vals l) 22) (Obj.cells #[.int .u64 0, .int .u64 0, .int .u64 0, .int .u64 0, .int .u64 0] 26))
    go_wp2_with (refine wpList_store_row rfl 26 _ _ rfl (w.heap.size + 1) #[.int .u64 z0, .int .u64 z1, .int .u64 z2, .int .u64 z3, .int .u64 z4] (by rfl) (by rfl) 26 _ HR (by kernel_rfl) rfl (ev_one ..) ?_)
    refine bodyPost_ret (results_cell_row rfl _ _ (w.heap.size + 1) 26 _ (0, 0) _ rfl (setRow_heap _ _ _ _ _ _ HR) Try.underlying26 rfl (by kernel_rfl)) rfl ?_
    refine ⟨_, _, _, _, _, rfl, hz, ?_⟩
    refine below_setRow ?_ (by omega) _
    refine Below.trans ?_ (hb1.mono (by simp; omega))
    go_grown

set_option maxHeartbeats 1000000 in
theorem small_any (n : Int) (w : World) (h0 : 0 ≤ n) (h1 : n < 18446744073709551616) :
    Calls Try.prog 22 #[.int .u64 n] w (ElemOut (Fin.ofNat P n.toNat) w) := by
  go_enter Try.func22, Try.ntmps22
  go_wp2
  go_returns
  refine ⟨_, _, _, _, _, rfl, small_el n h0 h1, ?_⟩
  go_grown
end Go.Proofs.Ytciakfhjjnmeeaa

namespace Go.Proofs.Ytciakfhjjnmeeaa
open Nt

theorem val_int (a : F) : 0 ≤ (a.val : Int) ∧ (a.val : Int) < 57896044618658097711785492504343953926634992332820282019728792003956564819949 := by
  have h := a.isLt
  have hP : ((P : Nat) : Int) = 57896044618658097711785492504343953926634992332820282019728792003956564819949 := PI_eq
  omega

theorem val_add_int (a b : F) : ((a + b).val : Int) = ((a.val : Int) + b.val) % 57896044618658097711785492504343953926634992332820282019728792003956564819949 := by
  rw [val_add, Int.natCast_emod, Int.natCast_add, PI_eq]

theorem val_mul_int (a b : F) : ((a * b).val : Int) = ((a.val : Int) * b.val) % 57896044618658097711785492504343953926634992332820282019728792003956564819949 := by
  rw [val_mul, Int.natCast_emod, Int.natCast_mul, PI_eq]

theorem val_sub_int (a b : F) : ((a - b).val : Int) = ((a.val : Int) - b.val) % 57896044618658097711785492504343953926634992332820282019728792003956564819949 := by
  have h : (a - b).val = ((P - b.val) + a.val) % P := rfl
  have hb := b.isLt
  have hP : ((P : Nat) : Int) = 57896044618658097711785492504343953926634992332820282019728792003956564819949 := PI_eq
  rw [h, Int.natCast_emod, hP]
  have e : (((P - b.val) + a.val : Nat) : Int) = ((a.val : Int) - b.val) + 57896044618658097711785492504343953926634992332820282019728792003956564819949 * 1 := by omega
  rw [e, Int.add_mul_emod_self_left]

theorem add_wd {x0 x1 x2 x3 x4 y0 y1 y2 y3 y4 : Int} {n m : F} (hx : El x0 x1 x2 x3 x4 n) (hy : El y0 y1 y2 y3 y4 m) : Wd (x0 + y0) (x1 + y1) (x2 + y2) (x3 + y3) (x4 + y4) (n + m) := by
  obtain ⟨a0, a1, a2, a3, a4, hs⟩ := hx
  obtain ⟨b0, b1, b2, b3, b4, ht⟩ := hy
  refine ⟨by omega, by omega, by omega, by omega, by omega, ?_⟩
  rw [val_add_int, ← hs, ← ht, ← Int.add_emod]
  congr 1
  omega

theorem sub_wd {x0 x1 x2 x3 x4 y0 y1 y2 y3 y4 : Int} {n m : F} (hx : El x0 x1 x2 x3 x4 n) (hy : El y0 y1 y2 y3 y4 m) :
    Wd (x0 + 9007199254740916 - y0) (x1 + 9007199254740988 - y1) (x2 + 9007199254740988 - y2) (x3 + 9007199254740988 - y3) (x4 + 9007199254740988 - y4) (n - m) := by
  obtain ⟨a0, a1, a2, a3, a4, hs⟩ := hx
  obtain ⟨b0, b1, b2, b3, b4, ht⟩ := hy
  refine ⟨by omega, by omega, by omega, by omega, by omega, ?_⟩
  rw [val_sub_int, ← hs, ← ht, ← Int.sub_emod]
  have e : x0 + 9007199254740916 - y0 + 2251799813685248 * (x1 + 9007199254740988 - y1) + 5070602400912917605986812821504 * (x2 + 9007199254740988 - y2) + 11417981541647679048466287755595961091061972992 * (x3 + 9007199254740988 - y3) + 25711008708143844408671393477458601640355247900524685364822016 * (x4 + 9007199254740988 - y4)
      = (x0 + 2251799813685248 * x1 + 5070602400912917605986812821504 * x2 + 11417981541647679048466287755595961091061972992 * x3 + 25711008708143844408671393477458601640355247900524685364822016 * x4 - (y0 + 2251799813685248 * y1 + 5070602400912917605986812821504 * y2 + 11417981541647679048466287755595961091061972992 * y3 + 25711008708143844408671393477458601640355247900524685364822016 * y4)) + 57896044618658097711785492504343953926634992332820282019728792003956564819949 * 4 := by omega
  rw [e, Int.add_mul_emod_self_left]

/-! ### 128 bits -/
/-- Two words that are one number. -/
def Wide (hi lo V : Int) : Prop := (0 ≤ hi ∧ hi < 18446744073709551616) ∧ (0 ≤ lo ∧ lo < 18446744073709551616) ∧ 18446744073709551616 * hi + lo = V

/-- A sum of a product: what the two words become. -/
theorem wide_add {hi lo V q : Int} (h : Wide hi lo V) (hq : 0 ≤ q) (hlt : V + q < 340282366920938463463374607431768211456) :
    Wide (((hi + q / 18446744073709551616) + (lo + q % 18446744073709551616) / 18446744073709551616) % 18446744073709551616) ((lo + q % 18446744073709551616) % 18446744073709551616) (V + q) := by
  obtain ⟨h1, h2, h3⟩ := h
  have e := Int.mul_ediv_add_emod q 18446744073709551616
  have hr := Int.emod_nonneg q (show (18446744073709551616 : Int) ≠ 0 by omega)
  have hr2 := Int.emod_lt_of_pos q (show (0 : Int) < 18446744073709551616 by omega)
  have hd : 0 ≤ q / 18446744073709551616 := Int.ediv_nonneg hq (by omega)
  generalize q / 18446744073709551616 = d at *
  generalize q % 18446744073709551616 = r at *
  have e2 : ((hi + d) + (lo + r) / 18446744073709551616) % 18446744073709551616 = (hi + d) + (lo + r) / 18446744073709551616 := Int.emod_eq_of_lt (by omega) (by omega)
  rw [e2]
  exact ⟨by omega, by omega, by omega⟩

theorem wide_zero : Wide 0 0 0 := ⟨by omega, by omega, by omega⟩

theorem wide_low {hi lo V : Int} (h : Wide hi lo V) : bits .and .u64 lo 2251799813685247 = V % 2251799813685248 := by
  obtain ⟨h1, h2, h3⟩ := h
  rw [and51 _ h2.1 h2.2]; omega

theorem or13 (x y : Int) (hx : 0 ≤ x) (hx' : x < 2251799813685248) (hy : 0 ≤ y) (hy' : y < 8192) : bits .or .u64 (x * 8192) y = x * 8192 + y := by go_bits2

theorem wide_over {hi lo V : Int} (h : Wide hi lo V) (hV : V < 41538374868278621028243970633760768) : bits .or .u64 (hi * 8192) (lo / 2251799813685248) = V / 2251799813685248 := by
  obtain ⟨h1, h2, h3⟩ := h
  rw [or13 _ _ (by omega) (by omega) (by omega) (by omega)]; omega
end Go.Proofs.Ytciakfhjjnmeeaa

namespace Go.Proofs.Ytciakfhjjnmeeaa
open Go.RowKit Nt

set_option maxHeartbeats 1000000 in
set_option maxRecDepth 100000 in
theorem add_any (x0 x1 x2 x3 x4 y0 y1 y2 y3 y4 : Int) (n m : F) (w : World) (hx : El x0 x1 x2 x3 x4 n) (hy : El y0 y1 y2 y3 y4 m) :
    Calls Try.prog 30 #[ev x0 x1 x2 x3 x4, ev y0 y1 y2 y3 y4] w (ElemOut (n + m) w) := by
  have HW := add_wd hx hy
  obtain ⟨a0, a1, a2, a3, a4, _⟩ := hx
  obtain ⟨b0, b1, b2, b3, b4, _⟩ := hy
  go_enter Try.func30, Try.ntmps30
  go_wp2_with fail
  refine wp_loop_rounds 6 ?_
  iterate 5 (rw [rounds_succ]; go_wp2; go_region; go_wp2)
  rw [rounds_succ]; go_wp2_with fail
  refine (carried_any _ _ _ _ _ _ _ HW).mono ?_
  rintro e w1 ⟨z0, z1, z2, z3, z4, rfl, hz, hb1⟩
  have Q1 := row_keep hb1 (new3_2 ..) (by simp)
  have B1 : Below w.heap.size w w1 := Below.trans (by go_grown) (hb1.mono (by simp; omega))
  clear hb1 a0 a1 a2 a3 a4 b0 b1 b2 b3 b4 HW
  go_wp2_with (refine st_row rfl 26 (.tmp 4) _ rfl _ #[.int .u64 z0, .int .u64 z1, .int .u64 z2, .int .u64 z3, .int .u64 z4] (by rfl) (by rfl) _ _ Q1 5 tElem (by rfl) (by rfl) (ev_one ..) ?_)
  refine ret_row rfl _ _ _ rfl (row_put Q1) 5 tElem (by rfl) rfl ?_
  exact ⟨_, _, _, _, _, rfl, hz, below_setRow B1 (by omega) _⟩

set_option maxHeartbeats 1000000 in
set_option maxRecDepth 100000 in
theorem sub_any (x0 x1 x2 x3 x4 y0 y1 y2 y3 y4 : Int) (n m : F) (w : World) (hx : El x0 x1 x2 x3 x4 n) (hy : El y0 y1 y2 y3 y4 m) :
    Calls Try.prog 31 #[ev x0 x1 x2 x3 x4, ev y0 y1 y2 y3 y4] w (ElemOut (n - m) w) := by
  have HW := sub_wd hx hy
  obtain ⟨a0, a1, a2, a3, a4, _⟩ := hx
  obtain ⟨b0, b1, b2, b3, b4, _⟩ := hy
  go_enter Try.func31, Try.ntmps31
  go_wp2_with fail
  refine wp_loop_rounds 5 ?_
  iterate 4 (rw [rounds_succ]; go_wp2; go_region; go_wp2)
  rw [rounds_succ]; go_wp2_with fail
  refine (carried_any _ _ _ _ _ _ _ HW).mono ?_
  rintro e w1 ⟨z0, z1, z2, z3, z4, rfl, hz, hb1⟩
  have Q1 := row_keep hb1 (new3_2 ..) (by simp)
  have B1 : Below w.heap.size w w1 := Below.trans (by go_grown) (hb1.mono (by simp; omega))
  clear hb1 a0 a1 a2 a3 a4 b0 b1 b2 b3 b4 HW
  go_wp2_with (refine st_row rfl 26 (.tmp 4) _ rfl _ #[.int .u64 z0, .int .u64 z1, .int .u64 z2, .int .u64 z3, .int .u64 z4] (by rfl) (by rfl) _ _ Q1 5 tElem (by rfl) (by rfl) (ev_one ..) ?_)
  refine ret_row rfl _ _ _ rfl (row_put Q1) 5 tElem (by rfl) rfl ?_
  exact ⟨_, _, _, _, _, rfl, hz, below_setRow B1 (by omega) _⟩

theorem el_zero : El 0 0 0 0 0 0 := ⟨by omega, by omega, by omega, by omega, by omega, by decide⟩

set_option maxHeartbeats 1000000 in
theorem neg_any (x0 x1 x2 x3 x4 : Int) (n : F) (w : World) (hx : El x0 x1 x2 x3 x4 n) :
    Calls Try.prog 29 #[ev x0 x1 x2 x3 x4] w (ElemOut (0 - n) w) := by
  go_enter Try.func29, Try.ntmps29
  go_wp2_with fail
  refine (sub_any _ _ _ _ _ _ _ _ _ _ _ _ _ el_zero hx).mono ?_
  rintro e w1 ⟨z0, z1, z2, z3, z4, rfl, hz, hb1⟩
  have Q1 := row_keep hb1 (new2_1 ..) (by simp)
  have B1 : Below w.heap.size w w1 := Below.trans (by go_grown) (hb1.mono (by simp; omega))
  clear hb1
  go_wp2_with (refine st_row rfl 26 (.tmp 2) _ rfl _ #[.int .u64 z0, .int .u64 z1, .int .u64 z2, .int .u64 z3, .int .u64 z4] (by rfl) (by rfl) _ _ Q1 5 tElem (by rfl) (by rfl) (ev_one ..) ?_)
  refine ret_row rfl _ _ _ rfl (row_put Q1) 5 tElem (by rfl) rfl ?_
  exact ⟨_, _, _, _, _, rfl, hz, below_setRow B1 (by omega) _⟩

theorem mul64_hi (x y : Int) (hx : 0 ≤ x ∧ x < 18446744073709551616) (hy : 0 ≤ y ∧ y < 18446744073709551616) :
    IntKind.u64.wrap (IntKind.u64.wrap (IntKind.u64.wrap (x / 4294967296 * (y / 4294967296)) + IntKind.u64.wrap (IntKind.u64.wrap (x / 4294967296 * (y % 4294967296)) + IntKind.u64.wrap (x % 4294967296 * (y % 4294967296)) / 4294967296) / 4294967296) +
      IntKind.u64.wrap (bits BinOp.and IntKind.u64 (IntKind.u64.wrap (IntKind.u64.wrap (x / 4294967296 * (y % 4294967296)) + IntKind.u64.wrap (x % 4294967296 * (y % 4294967296)) / 4294967296)) 4294967295 + IntKind.u64.wrap (x % 4294967296 * (y / 4294967296))) / 4294967296)
      = x * y / 18446744073709551616 := by
  rw [and_low32 _ (wrap_u64_nonneg _) (by rw [IntKind.wrap_u64]; exact Int.emod_lt_of_pos _ (by decide))]
  simp only [IntKind.wrap_u64]
  exact mul64_arith x y hx.1 hx.2 hy.1 hy.2

set_option maxHeartbeats 1000000 in
/-- The whole product of two words. -/
theorem mul64_any (x y : Int) (w : World) (hx : 0 ≤ x ∧ x < 18446744073709551616) (hy : 0 ≤ y ∧ y < 18446744073709551616) :
    Calls Try.prog 72 #[.int .u64 x, .int .u64 y] w fun e w' => e = .returned (.tuple #[.int .u64 (x * y / 18446744073709551616), .int .u64 (x * y % 18446744073709551616)]) ∧ w = w' := by
  have e1 := and_low32 x hx.1 hx.2
  have e2 := and_low32 y hy.1 hy.2
  have H := Lib.hid (mul64_hi x y hx hy)
  go_enter Try.func72, Try.ntmps72
  go_wp2
  go_returns
  refine ⟨?_, rfl⟩
  rw [← H.out, ← IntKind.wrap_u64 (x * y)]
  rfl

theorem add64_run (x y c : Int) (hx : 0 ≤ x) (hy : 0 ≤ y) (hc0 : 0 ≤ c) (hc : c ≤ 1) (w : World) :
    (callFunc 73 #[.int .u64 x, .int .u64 y, .int .u64 c]).run Try.prog w = .ok (.value (.tuple #[.int .u64 ((x + y + c) % 18446744073709551616), .int .u64 ((x + y + c) / 18446744073709551616)])) w := by
  rw [run_callFunc_extern Try.func73 (by kernel_rfl) (by kernel_rfl) (by kernel_rfl) (e := add64Entry) (by kernel_rfl), run_add64 x y c hx hy hc0 hc]
  rfl

/-- The sum of products, one product more: the two words of the sum are written, nothing else. -/
def WadOut (b o : Nat) (V q : Int) (w : World) (e : Ending) (w' : World) : Prop :=
  ∃ hi lo, e = .returned (.tuple #[]) ∧ Wide hi lo (V + q) ∧ w' = (w.setCell ⟨b, o + 1, none⟩ (.int .u64 lo)).setCell ⟨b, o, none⟩ (.int .u64 hi)

set_option maxHeartbeats 1000000 in
set_option maxRecDepth 100000 in
theorem wadd_any (b o : Nat) (x y hi lo V : Int) (w : World) (hw : Wide hi lo V) (hx : 0 ≤ x ∧ x < 18446744073709551616) (hy : 0 ≤ y ∧ y < 18446744073709551616) (hlt : V + x * y < 340282366920938463463374607431768211456)
    (c0 : w.cell? ⟨b, o, none⟩ = some (.int .u64 hi)) (c1 : w.cell? ⟨b, o + 1, none⟩ = some (.int .u64 lo)) (f0 : w.frozen? ⟨b, o, none⟩ = false) (f1 : w.frozen? ⟨b, o + 1, none⟩ = false) :
    Calls Try.prog 71 #[.pointer (some ⟨b, o, none⟩), .int .u64 x, .int .u64 y] w (WadOut b o V (x * y) w) := by
  have HF := Lib.hid (wide_add hw (Int.mul_nonneg hx.1 hy.1) hlt)
  obtain ⟨h1, h2, _⟩ := hw
  have q0 : 0 ≤ x * y / 18446744073709551616 := Int.ediv_nonneg (Int.mul_nonneg hx.1 hy.1) (by omega)
  have q1 : 0 ≤ x * y % 18446744073709551616 := Int.emod_nonneg _ (by decide)
  have q2 : x * y % 18446744073709551616 < 18446744073709551616 := Int.emod_lt_of_pos _ (by decide)
  clear hlt
  go_enter Try.func71, Try.ntmps71
  go_wp2_with fail
  refine (mul64_any x y _ hx hy).mono ?_
  rintro e w' ⟨rfl, rfl⟩
  generalize x * y / 18446744073709551616 = qh at *
  generalize x * y % 18446744073709551616 = ql at *
  have A1 : ∀ w, (callFunc 73 #[.int .u64 lo, .int .u64 ql, .int .u64 0]).run Try.prog w = .ok (.value (.tuple #[.int .u64 ((lo + ql) % 18446744073709551616), .int .u64 ((lo + ql) / 18446744073709551616)])) w := fun w => by
    have h := add64_run lo ql 0 h2.1 q1 (by omega) (by omega) w
    rwa [Int.add_zero] at h
  have A2 : ∀ w, (callFunc 73 #[.int .u64 hi, .int .u64 qh, .int .u64 ((lo + ql) / 18446744073709551616)]).run Try.prog w = .ok (.value (.tuple #[.int .u64 ((hi + qh + (lo + ql) / 18446744073709551616) % 18446744073709551616), .int .u64 ((hi + qh + (lo + ql) / 18446744073709551616) / 18446744073709551616)])) w := fun w =>
    add64_run hi qh ((lo + ql) / 18446744073709551616) h1.1 q0 (by omega) (by omega) w
  generalize (hi + qh + (lo + ql) / 18446744073709551616) / 18446744073709551616 = junk at *
  generalize (hi + qh + (lo + ql) / 18446744073709551616) % 18446744073709551616 = rh at *
  generalize (lo + ql) / 18446744073709551616 = cc at *
  generalize (lo + ql) % 18446744073709551616 = rl at *
  clear q0 q1 q2 h1 h2
  go_wp2
  go_returns
  exact ⟨rh, rl, rfl, HF.out, rfl⟩
end Go.Proofs.Ytciakfhjjnmeeaa

namespace Go.Proofs.Ytciakfhjjnmeeaa
open Nt

/-- A sum of k products at most. -/
def WB (hi lo V k : Int) : Prop := Wide hi lo V ∧ 0 ≤ V ∧ V ≤ k * 649037107316853453566312041152512

theorem wb_zero : WB 0 0 0 0 := ⟨wide_zero, by omega, by omega⟩

theorem prod_le {x y : Int} (hx : 0 ≤ x ∧ x < 4503599627370496) (hy : 0 ≤ y ∧ y < 144115188075855872) : 0 ≤ x * y ∧ x * y ≤ 649037107316853453566312041152512 := by
  refine ⟨Int.mul_nonneg hx.1 hy.1, ?_⟩
  have h := Int.mul_le_mul (Int.le_of_lt hx.2) (Int.le_of_lt hy.2) hy.1 (by omega)
  omega

theorem wb_lt {hi lo V k x y : Int} (hw : WB hi lo V k) (hk : k ≤ 24) (hx : 0 ≤ x ∧ x < 4503599627370496) (hy : 0 ≤ y ∧ y < 144115188075855872) : V + x * y < 340282366920938463463374607431768211456 := by
  have h := prod_le hx hy
  obtain ⟨_, _, h2⟩ := hw
  omega

theorem wb_step {hi lo hi' lo' V k x y : Int} (hw : WB hi lo V k) (hk : k ≤ 24) (hx : 0 ≤ x ∧ x < 4503599627370496) (hy : 0 ≤ y ∧ y < 144115188075855872) (h' : Wide hi' lo' (V + x * y)) : WB hi' lo' (V + x * y) (k + 1) := by
  have h := prod_le hx hy
  obtain ⟨_, h1, h2⟩ := hw
  exact ⟨h', by omega, by omega⟩

/-- A sum and what comes over from the one below: the limb that stays, what goes up. -/
structure Limb (hi lo S o t q : Int) : Prop where
  low : bits .and .u64 lo 2251799813685247 = t
  over : bits .or .u64 (hi * 8192) (lo / 2251799813685248) = q
  hi0 : 0 ≤ hi
  hi1 : hi < 1125899906842624
  lo0 : 0 ≤ lo
  lo1 : lo < 18446744073709551616
  t0 : 0 ≤ t
  t1 : t < 2251799813685248
  q0 : 0 ≤ q
  q1 : q < 9223372036854775808
  sum : S + o = 2251799813685248 * q + t

theorem limb_of {hi lo S o : Int} (h : Wide hi lo (S + o)) (h0 : 0 ≤ S + o) (hlt : S + o < 20769187434139310514121985316880384) : Limb hi lo S o ((S + o) % 2251799813685248) ((S + o) / 2251799813685248) := by
  have h2 := wide_low h
  have h3 := wide_over h (by omega)
  obtain ⟨⟨a, b⟩, ⟨c, d⟩, e⟩ := h
  exact ⟨h2, h3, a, by omega, c, d, by omega, by omega, by omega, by omega, by omega⟩

/-- What is over of all, 19 times, and the lowest limb. -/
theorem last_limb (q t : Int) (hq0 : 0 ≤ q) (hq1 : q < 9223372036854775808) (ht0 : 0 ≤ t) (ht1 : t < 2251799813685248) :
    Limb (q * 19 / 18446744073709551616 + (q * 19 % 18446744073709551616 + t) / 18446744073709551616) ((q * 19 % 18446744073709551616 + t) % 18446744073709551616) (q * 19) t ((q * 19 + t) % 2251799813685248) ((q * 19 + t) / 2251799813685248) :=
  limb_of ⟨by omega, by omega, by omega⟩ (by omega) (by omega)

theorem prod_ring (x0 x1 x2 x3 x4 y0 y1 y2 y3 y4 : Int) :
    (x0 + 2251799813685248 * x1 + 5070602400912917605986812821504 * x2 + 11417981541647679048466287755595961091061972992 * x3 + 25711008708143844408671393477458601640355247900524685364822016 * x4) *
    (y0 + 2251799813685248 * y1 + 5070602400912917605986812821504 * y2 + 11417981541647679048466287755595961091061972992 * y3 + 25711008708143844408671393477458601640355247900524685364822016 * y4) =
    (x0 * y0 + 19 * (x1 * y4 + x2 * y3 + x3 * y2 + x4 * y1)) + 2251799813685248 * (x0 * y1 + x1 * y0 + 19 * (x2 * y4 + x3 * y3 + x4 * y2)) + 5070602400912917605986812821504 * (x0 * y2 + x1 * y1 + x2 * y0 + 19 * (x3 * y4 + x4 * y3)) +
      11417981541647679048466287755595961091061972992 * (x0 * y3 + x1 * y2 + x2 * y1 + x3 * y0 + 19 * (x4 * y4)) + 25711008708143844408671393477458601640355247900524685364822016 * (x0 * y4 + x1 * y3 + x2 * y2 + x3 * y1 + x4 * y0) +
      57896044618658097711785492504343953926634992332820282019728792003956564819949 * ((x1 * y4 + x2 * y3 + x3 * y2 + x4 * y1) + 2251799813685248 * (x2 * y4 + x3 * y3 + x4 * y2) + 5070602400912917605986812821504 * (x3 * y4 + x4 * y3) + 11417981541647679048466287755595961091061972992 * (x4 * y4)) := by
  grind

theorem mul_wd {x0 x1 x2 x3 x4 y0 y1 y2 y3 y4 S0 S1 S2 S3 S4 t0 t1 t2 t3 t4 q0 q1 q2 q3 q4 t q : Int} {n m : F} (hx : El x0 x1 x2 x3 x4 n) (hy : El y0 y1 y2 y3 y4 m)
    (e0 : S0 = x0 * y0 + 19 * (x1 * y4 + x2 * y3 + x3 * y2 + x4 * y1)) (e1 : S1 = x0 * y1 + x1 * y0 + 19 * (x2 * y4 + x3 * y3 + x4 * y2)) (e2 : S2 = x0 * y2 + x1 * y1 + x2 * y0 + 19 * (x3 * y4 + x4 * y3))
    (e3 : S3 = x0 * y3 + x1 * y2 + x2 * y1 + x3 * y0 + 19 * (x4 * y4)) (e4 : S4 = x0 * y4 + x1 * y3 + x2 * y2 + x3 * y1 + x4 * y0)
    (f0 : S0 + 0 = 2251799813685248 * q0 + t0) (f1 : S1 + q0 = 2251799813685248 * q1 + t1) (f2 : S2 + q1 = 2251799813685248 * q2 + t2) (f3 : S3 + q2 = 2251799813685248 * q3 + t3) (f4 : S4 + q3 = 2251799813685248 * q4 + t4)
    (f5 : q4 * 19 + t0 = 2251799813685248 * q + t) (hb : (0 ≤ t ∧ t < 2251799813685248) ∧ (0 ≤ t1 ∧ t1 < 2251799813685248) ∧ (0 ≤ t2 ∧ t2 < 2251799813685248) ∧ (0 ≤ t3 ∧ t3 < 2251799813685248) ∧ (0 ≤ t4 ∧ t4 < 2251799813685248) ∧ (0 ≤ q ∧ q < 9223372036854775808)) :
    Wd t (t1 + q) t2 t3 t4 (n * m) := by
  obtain ⟨_, _, _, _, _, hs⟩ := hx
  obtain ⟨_, _, _, _, _, ht⟩ := hy
  refine ⟨by omega, by omega, by omega, by omega, by omega, ?_⟩
  rw [val_mul_int, ← hs, ← ht, ← Int.mul_emod, prod_ring, ← e0, ← e1, ← e2, ← e3, ← e4, Int.add_mul_emod_self_left]
  have e : S0 + 2251799813685248 * S1 + 5070602400912917605986812821504 * S2 + 11417981541647679048466287755595961091061972992 * S3 + 25711008708143844408671393477458601640355247900524685364822016 * S4
      = (t + 2251799813685248 * (t1 + q) + 5070602400912917605986812821504 * t2 + 11417981541647679048466287755595961091061972992 * t3 + 25711008708143844408671393477458601640355247900524685364822016 * t4) + 57896044618658097711785492504343953926634992332820282019728792003956564819949 * q4 := by
    clear hs ht e0 e1 e2 e3 e4 hb
    omega
  rw [e, Int.add_mul_emod_self_left]
end Go.Proofs.Ytciakfhjjnmeeaa

namespace Go.Proofs.Ytciakfhjjnmeeaa
open Go.RowKit Nt

/-- The sum of products, one product more, with its bound. -/
def WbOut (b o : Nat) (V q : Int) (k : Int) (w : World) (e : Ending) (w' : World) : Prop :=
  ∃ hi lo, e = .returned (.tuple #[]) ∧ WB hi lo (V + q) (k + 1) ∧ w' = (w.setCell ⟨b, o + 1, none⟩ (.int .u64 lo)).setCell ⟨b, o, none⟩ (.int .u64 hi)

theorem wadd_b (b o : Nat) (x y hi lo V k : Int) (w : World) (hw : WB hi lo V k) (hk : k ≤ 24) (hx : 0 ≤ x ∧ x < 4503599627370496) (hy : 0 ≤ y ∧ y < 144115188075855872)
    (c0 : w.cell? ⟨b, o, none⟩ = some (.int .u64 hi)) (c1 : w.cell? ⟨b, o + 1, none⟩ = some (.int .u64 lo)) (f0 : w.frozen? ⟨b, o, none⟩ = false) (f1 : w.frozen? ⟨b, o + 1, none⟩ = false) :
    Calls Try.prog 71 #[.pointer (some ⟨b, o, none⟩), .int .u64 x, .int .u64 y] w (WbOut b o V (x * y) k w) :=
  (wadd_any b o x y hi lo V w hw.1 (by omega) (by omega) (wb_lt hw hk hx hy) c0 c1 f0 f1).mono fun _ _ ⟨h, l, h1, h2, h3⟩ => ⟨h, l, h1, wb_step hw hk hx hy h2, h3⟩

/-- The sum of products and what comes over. -/
def WoOut (b o : Nat) (S ov : Int) (w : World) (e : Ending) (w' : World) : Prop :=
  ∃ hi lo t q, e = .returned (.tuple #[]) ∧ Limb hi lo S ov t q ∧ w' = (w.setCell ⟨b, o + 1, none⟩ (.int .u64 lo)).setCell ⟨b, o, none⟩ (.int .u64 hi)

theorem wadd_o (b o : Nat) (hi lo S k ov : Int) (w : World) (hw : WB hi lo S k) (hk : k ≤ 25) (ho : 0 ≤ ov ∧ ov < 9223372036854775808)
    (c0 : w.cell? ⟨b, o, none⟩ = some (.int .u64 hi)) (c1 : w.cell? ⟨b, o + 1, none⟩ = some (.int .u64 lo)) (f0 : w.frozen? ⟨b, o, none⟩ = false) (f1 : w.frozen? ⟨b, o + 1, none⟩ = false) :
    Calls Try.prog 71 #[.pointer (some ⟨b, o, none⟩), .int .u64 ov, .int .u64 1] w (WoOut b o S ov w) := by
  obtain ⟨hw1, hw2, hw3⟩ := hw
  refine (wadd_any b o ov 1 hi lo S w hw1 (by omega) (by omega) (by omega) c0 c1 f0 f1).mono ?_
  rintro e w' ⟨h, l, h1, h2, h3⟩
  rw [Int.mul_one] at h2
  exact ⟨h, l, _, _, h1, limb_of h2 (by omega) (by omega), h3⟩

/-- A list of operations that a walk is to leave alone. -/
def Held2 (p : Prop) : Prop := p
theorem held_store {P : Program} {ops : Array Oper} {rest : List Oper} {o : Oper} {Q : Exit → Act → World → Prop} {a : Act} {w : World} (ty : TypeId) (x y : Operand) (_ : o.op = .store ty x y) (h : Held2 (wpList P ops Q (o :: rest) a w)) : wpList P ops Q (o :: rest) a w := h
theorem hide_held2 {P : Program} {ops : Array Oper} {rest : List Oper} {Q : Exit → Act → World → Prop} {t : Array Value} {df : List Deferred} {w : World} (h : ∀ t0, t0 = t → wpList P ops Q rest ⟨t0, df⟩ w) : Held2 (wpList P ops Q rest ⟨t, df⟩ w) := h _ rfl
theorem eval_tmp2 {a : Act} {t : Nat} {v : Value} (h : a.tmps[t]? = some v) : a.eval (.tmp t) = v := by
  show a.tmps.getD t undef = v
  rw [Array.getD_eq_getD_getElem?, h]; rfl

set_option maxHeartbeats 4000000 in
set_option maxRecDepth 100000 in
theorem mul_any (x0 x1 x2 x3 x4 y0 y1 y2 y3 y4 : Int) (n m : F) (w : World) (hx : El x0 x1 x2 x3 x4 n) (hy : El y0 y1 y2 y3 y4 m) :
    Calls Try.prog 32 #[ev x0 x1 x2 x3 x4, ev y0 y1 y2 y3 y4] w (ElemOut (n * m) w) := by
  have HX := hx
  have HY := hy
  obtain ⟨a0, a1, a2, a3, a4, _⟩ := hx
  obtain ⟨b0, b1, b2, b3, b4, _⟩ := hy
  have ix0 : ∀ w, (Instr.index 24 (.agg #[.int .u64 x0, .int .u64 x1, .int .u64 x2, .int .u64 x3, .int .u64 x4]) (.int .i64 0)).run Try.prog w = .ok (.int .u64 x0) w := fun _ => by kernel_rfl
  have ix1 : ∀ w, (Instr.index 24 (.agg #[.int .u64 x0, .int .u64 x1, .int .u64 x2, .int .u64 x3, .int .u64 x4]) (.int .i64 1)).run Try.prog w = .ok (.int .u64 x1) w := fun _ => by kernel_rfl
  have ix2 : ∀ w, (Instr.index 24 (.agg #[.int .u64 x0, .int .u64 x1, .int .u64 x2, .int .u64 x3, .int .u64 x4]) (.int .i64 2)).run Try.prog w = .ok (.int .u64 x2) w := fun _ => by kernel_rfl
  have ix3 : ∀ w, (Instr.index 24 (.agg #[.int .u64 x0, .int .u64 x1, .int .u64 x2, .int .u64 x3, .int .u64 x4]) (.int .i64 3)).run Try.prog w = .ok (.int .u64 x3) w := fun _ => by kernel_rfl
  have ix4 : ∀ w, (Instr.index 24 (.agg #[.int .u64 x0, .int .u64 x1, .int .u64 x2, .int .u64 x3, .int .u64 x4]) (.int .i64 4)).run Try.prog w = .ok (.int .u64 x4) w := fun _ => by kernel_rfl
  have iy0 : ∀ w, (Instr.index 24 (.agg #[.int .u64 y0, .int .u64 y1, .int .u64 y2, .int .u64 y3, .int .u64 y4]) (.int .i64 0)).run Try.prog w = .ok (.int .u64 y0) w := fun _ => by kernel_rfl
  have iy1 : ∀ w, (Instr.index 24 (.agg #[.int .u64 y0, .int .u64 y1, .int .u64 y2, .int .u64 y3, .int .u64 y4]) (.int .i64 1)).run Try.prog w = .ok (.int .u64 y1) w := fun _ => by kernel_rfl
  have iy2 : ∀ w, (Instr.index 24 (.agg #[.int .u64 y0, .int .u64 y1, .int .u64 y2, .int .u64 y3, .int .u64 y4]) (.int .i64 2)).run Try.prog w = .ok (.int .u64 y2) w := fun _ => by kernel_rfl
  have iy3 : ∀ w, (Instr.index 24 (.agg #[.int .u64 y0, .int .u64 y1, .int .u64 y2, .int .u64 y3, .int .u64 y4]) (.int .i64 3)).run Try.prog w = .ok (.int .u64 y3) w := fun _ => by kernel_rfl
  have iy4 : ∀ w, (Instr.index 24 (.agg #[.int .u64 y0, .int .u64 y1, .int .u64 y2, .int .u64 y3, .int .u64 y4]) (.int .i64 4)).run Try.prog w = .ok (.int .u64 y4) w := fun _ => by kernel_rfl
  have G0 := wb_zero
  have G1 := wb_zero
  have G2 := wb_zero
  have G3 := wb_zero
  have G4 := wb_zero
  go_enter Try.func32, Try.ntmps32
  go_wp2_with fail
  refine wp_loop_rounds 6 ?_
  rw [rounds_succ]; go_wp2_with fail
  refine wp_loop_rounds 6 ?_
  rw [rounds_succ]; go_wp2_with fail
  refine (wadd_b _ _ _ _ _ _ _ _ _ G0 (by decide) a0 (by omega) (row_cell (new4_3 ..) 0) (row_cell (new4_3 ..) 1) (row_free (new4_3 ..) _) (row_free (new4_3 ..) _)).mono ?_
  clear G0
  rintro e w1 ⟨u0, l0, rfl, G0, rfl⟩
  go_wp2_with fail
  rw [rounds_succ]; go_wp2_with fail
  refine (wadd_b _ _ _ _ _ _ _ _ _ G1 (by decide) a0 (by omega) (row_cell (new4_3 ..) 2) (row_cell (new4_3 ..) 3) (row_free (new4_3 ..) _) (row_free (new4_3 ..) _)).mono ?_
  clear G1
  rintro e w1 ⟨u1, l1, rfl, G1, rfl⟩
  go_wp2_with fail
  rw [rounds_succ]; go_wp2_with fail
  refine (wadd_b _ _ _ _ _ _ _ _ _ G2 (by decide) a0 (by omega) (row_cell (new4_3 ..) 4) (row_cell (new4_3 ..) 5) (row_free (new4_3 ..) _) (row_free (new4_3 ..) _)).mono ?_
  clear G2
  rintro e w1 ⟨u2, l2, rfl, G2, rfl⟩
  go_wp2_with fail
  rw [rounds_succ]; go_wp2_with fail
  refine (wadd_b _ _ _ _ _ _ _ _ _ G3 (by decide) a0 (by omega) (row_cell (new4_3 ..) 6) (row_cell (new4_3 ..) 7) (row_free (new4_3 ..) _) (row_free (new4_3 ..) _)).mono ?_
  clear G3
  rintro e w1 ⟨u3, l3, rfl, G3, rfl⟩
  go_wp2_with fail
  rw [rounds_succ]; go_wp2_with fail
  refine (wadd_b _ _ _ _ _ _ _ _ _ G4 (by decide) a0 (by omega) (row_cell (new4_3 ..) 8) (row_cell (new4_3 ..) 9) (row_free (new4_3 ..) _) (row_free (new4_3 ..) _)).mono ?_
  clear G4
  rintro e w1 ⟨u4, l4, rfl, G4, rfl⟩
  go_wp2_with fail
  rw [rounds_succ]; go_wp2_with fail
  rw [rounds_succ]; go_wp2_with fail
  refine wp_loop_rounds 6 ?_
  rw [rounds_succ]; go_wp2_with fail
  refine (wadd_b _ _ _ _ _ _ _ _ _ G1 (by decide) a1 (by omega) (row_cell (new4_3 ..) 2) (row_cell (new4_3 ..) 3) (row_free (new4_3 ..) _) (row_free (new4_3 ..) _)).mono ?_
  clear G1
  rintro e w1 ⟨u1, l1, rfl, G1, rfl⟩
  go_wp2_with fail
  rw [rounds_succ]; go_wp2_with fail
  refine (wadd_b _ _ _ _ _ _ _ _ _ G2 (by decide) a1 (by omega) (row_cell (new4_3 ..) 4) (row_cell (new4_3 ..) 5) (row_free (new4_3 ..) _) (row_free (new4_3 ..) _)).mono ?_
  clear G2
  rintro e w1 ⟨u2, l2, rfl, G2, rfl⟩
  go_wp2_with fail
  rw [rounds_succ]; go_wp2_with fail
  refine (wadd_b _ _ _ _ _ _ _ _ _ G3 (by decide) a1 (by omega) (row_cell (new4_3 ..) 6) (row_cell (new4_3 ..) 7) (row_free (new4_3 ..) _) (row_free (new4_3 ..) _)).mono ?_
  clear G3
  rintro e w1 ⟨u3, l3, rfl, G3, rfl⟩
  go_wp2_with fail
  rw [rounds_succ]; go_wp2_with fail
  refine (wadd_b _ _ _ _ _ _ _ _ _ G4 (by decide) a1 (by omega) (row_cell (new4_3 ..) 8) (row_cell (new4_3 ..) 9) (row_free (new4_3 ..) _) (row_free (new4_3 ..) _)).mono ?_
  clear G4
  rintro e w1 ⟨u4, l4, rfl, G4, rfl⟩
  go_wp2_with fail
  rw [rounds_succ]; go_wp2_with fail
  refine (wadd_b _ _ _ _ _ _ _ _ _ G0 (by decide) a1 (by omega) (row_cell (new4_3 ..) 0) (row_cell (new4_3 ..) 1) (row_free (new4_3 ..) _) (row_free (new4_3 ..) _)).mono ?_
  clear G0
  rintro e w1 ⟨u0, l0, rfl, G0, rfl⟩
  go_wp2_with fail
  rw [rounds_succ]; go_wp2_with fail
  rw [rounds_succ]; go_wp2_with fail
  refine wp_loop_rounds 6 ?_
  rw [rounds_succ]; go_wp2_with fail
  refine (wadd_b _ _ _ _ _ _ _ _ _ G2 (by decide) a2 (by omega) (row_cell (new4_3 ..) 4) (row_cell (new4_3 ..) 5) (row_free (new4_3 ..) _) (row_free (new4_3 ..) _)).mono ?_
  clear G2
  rintro e w1 ⟨u2, l2, rfl, G2, rfl⟩
  go_wp2_with fail
  rw [rounds_succ]; go_wp2_with fail
  refine (wadd_b _ _ _ _ _ _ _ _ _ G3 (by decide) a2 (by omega) (row_cell (new4_3 ..) 6) (row_cell (new4_3 ..) 7) (row_free (new4_3 ..) _) (row_free (new4_3 ..) _)).mono ?_
  clear G3
  rintro e w1 ⟨u3, l3, rfl, G3, rfl⟩
  go_wp2_with fail
  rw [rounds_succ]; go_wp2_with fail
  refine (wadd_b _ _ _ _ _ _ _ _ _ G4 (by decide) a2 (by omega) (row_cell (new4_3 ..) 8) (row_cell (new4_3 ..) 9) (row_free (new4_3 ..) _) (row_free (new4_3 ..) _)).mono ?_
  clear G4
  rintro e w1 ⟨u4, l4, rfl, G4, rfl⟩
  go_wp2_with fail
  rw [rounds_succ]; go_wp2_with fail
  refine (wadd_b _ _ _ _ _ _ _ _ _ G0 (by decide) a2 (by omega) (row_cell (new4_3 ..) 0) (row_cell (new4_3 ..) 1) (row_free (new4_3 ..) _) (row_free (new4_3 ..) _)).mono ?_
  clear G0
  rintro e w1 ⟨u0, l0, rfl, G0, rfl⟩
  go_wp2_with fail
  rw [rounds_succ]; go_wp2_with fail
  refine (wadd_b _ _ _ _ _ _ _ _ _ G1 (by decide) a2 (by omega) (row_cell (new4_3 ..) 2) (row_cell (new4_3 ..) 3) (row_free (new4_3 ..) _) (row_free (new4_3 ..) _)).mono ?_
  clear G1
  rintro e w1 ⟨u1, l1, rfl, G1, rfl⟩
  go_wp2_with fail
  rw [rounds_succ]; go_wp2_with fail
  rw [rounds_succ]; go_wp2_with fail
  refine wp_loop_rounds 6 ?_
  rw [rounds_succ]; go_wp2_with fail
  refine (wadd_b _ _ _ _ _ _ _ _ _ G3 (by decide) a3 (by omega) (row_cell (new4_3 ..) 6) (row_cell (new4_3 ..) 7) (row_free (new4_3 ..) _) (row_free (new4_3 ..) _)).mono ?_
  clear G3
  rintro e w1 ⟨u3, l3, rfl, G3, rfl⟩
  go_wp2_with fail
  rw [rounds_succ]; go_wp2_with fail
  refine (wadd_b _ _ _ _ _ _ _ _ _ G4 (by decide) a3 (by omega) (row_cell (new4_3 ..) 8) (row_cell (new4_3 ..) 9) (row_free (new4_3 ..) _) (row_free (new4_3 ..) _)).mono ?_
  clear G4
  rintro e w1 ⟨u4, l4, rfl, G4, rfl⟩
  go_wp2_with fail
  rw [rounds_succ]; go_wp2_with fail
  refine (wadd_b _ _ _ _ _ _ _ _ _ G0 (by decide) a3 (by omega) (row_cell (new4_3 ..) 0) (row_cell (new4_3 ..) 1) (row_free (new4_3 ..) _) (row_free (new4_3 ..) _)).mono ?_
  clear G0
  rintro e w1 ⟨u0, l0, rfl, G0, rfl⟩
  go_wp2_with fail
  rw [rounds_succ]; go_wp2_with fail
  refine (wadd_b _ _ _ _ _ _ _ _ _ G1 (by decide) a3 (by omega) (row_cell (new4_3 ..) 2) (row_cell (new4_3 ..) 3) (row_free (new4_3 ..) _) (row_free (new4_3 ..) _)).mono ?_
  clear G1
  rintro e w1 ⟨u1, l1, rfl, G1, rfl⟩
  go_wp2_with fail
  rw [rounds_succ]; go_wp2_with fail
  refine (wadd_b _ _ _ _ _ _ _ _ _ G2 (by decide) a3 (by omega) (row_cell (new4_3 ..) 4) (row_cell (new4_3 ..) 5) (row_free (new4_3 ..) _) (row_free (new4_3 ..) _)).mono ?_
  clear G2
  rintro e w1 ⟨u2, l2, rfl, G2, rfl⟩
  go_wp2_with fail
  rw [rounds_succ]; go_wp2_with fail
  rw [rounds_succ]; go_wp2_with fail
  refine wp_loop_rounds 6 ?_
  rw [rounds_succ]; go_wp2_with fail
  refine (wadd_b _ _ _ _ _ _ _ _ _ G4 (by decide) a4 (by omega) (row_cell (new4_3 ..) 8) (row_cell (new4_3 ..) 9) (row_free (new4_3 ..) _) (row_free (new4_3 ..) _)).mono ?_
  clear G4
  rintro e w1 ⟨u4, l4, rfl, G4, rfl⟩
  go_wp2_with fail
  rw [rounds_succ]; go_wp2_with fail
  refine (wadd_b _ _ _ _ _ _ _ _ _ G0 (by decide) a4 (by omega) (row_cell (new4_3 ..) 0) (row_cell (new4_3 ..) 1) (row_free (new4_3 ..) _) (row_free (new4_3 ..) _)).mono ?_
  clear G0
  rintro e w1 ⟨u0, l0, rfl, G0, rfl⟩
  go_wp2_with fail
  rw [rounds_succ]; go_wp2_with fail
  refine (wadd_b _ _ _ _ _ _ _ _ _ G1 (by decide) a4 (by omega) (row_cell (new4_3 ..) 2) (row_cell (new4_3 ..) 3) (row_free (new4_3 ..) _) (row_free (new4_3 ..) _)).mono ?_
  clear G1
  rintro e w1 ⟨u1, l1, rfl, G1, rfl⟩
  go_wp2_with fail
  rw [rounds_succ]; go_wp2_with fail
  refine (wadd_b _ _ _ _ _ _ _ _ _ G2 (by decide) a4 (by omega) (row_cell (new4_3 ..) 4) (row_cell (new4_3 ..) 5) (row_free (new4_3 ..) _) (row_free (new4_3 ..) _)).mono ?_
  clear G2
  rintro e w1 ⟨u2, l2, rfl, G2, rfl⟩
  go_wp2_with fail
  rw [rounds_succ]; go_wp2_with fail
  refine (wadd_b _ _ _ _ _ _ _ _ _ G3 (by decide) a4 (by omega) (row_cell (new4_3 ..) 6) (row_cell (new4_3 ..) 7) (row_free (new4_3 ..) _) (row_free (new4_3 ..) _)).mono ?_
  clear G3
  rintro e w1 ⟨u3, l3, rfl, G3, rfl⟩
  go_wp2_with fail
  rw [rounds_succ]; go_wp2_with fail
  rw [rounds_succ]; go_wp2_with fail
  obtain ⟨S0, HS0⟩ : ∃ S, S = 0 + x0 * y0 + x1 * (y4 * 19) + x2 * (y3 * 19) + x3 * (y2 * 19) + x4 * (y1 * 19) := ⟨_, rfl⟩
  rw [← HS0] at G0
  have HE0 := Lib.hid (HS0.trans (show 0 + x0 * y0 + x1 * (y4 * 19) + x2 * (y3 * 19) + x3 * (y2 * 19) + x4 * (y1 * 19) = x0 * y0 + 19 * (x1 * y4 + x2 * y3 + x3 * y2 + x4 * y1) by grind))
  clear HS0
  obtain ⟨S1, HS1⟩ : ∃ S, S = 0 + x0 * y1 + x1 * y0 + x2 * (y4 * 19) + x3 * (y3 * 19) + x4 * (y2 * 19) := ⟨_, rfl⟩
  rw [← HS1] at G1
  have HE1 := Lib.hid (HS1.trans (show 0 + x0 * y1 + x1 * y0 + x2 * (y4 * 19) + x3 * (y3 * 19) + x4 * (y2 * 19) = x0 * y1 + x1 * y0 + 19 * (x2 * y4 + x3 * y3 + x4 * y2) by grind))
  clear HS1
  obtain ⟨S2, HS2⟩ : ∃ S, S = 0 + x0 * y2 + x1 * y1 + x2 * y0 + x3 * (y4 * 19) + x4 * (y3 * 19) := ⟨_, rfl⟩
  rw [← HS2] at G2
  have HE2 := Lib.hid (HS2.trans (show 0 + x0 * y2 + x1 * y1 + x2 * y0 + x3 * (y4 * 19) + x4 * (y3 * 19) = x0 * y2 + x1 * y1 + x2 * y0 + 19 * (x3 * y4 + x4 * y3) by grind))
  clear HS2
  obtain ⟨S3, HS3⟩ : ∃ S, S = 0 + x0 * y3 + x1 * y2 + x2 * y1 + x3 * y0 + x4 * (y4 * 19) := ⟨_, rfl⟩
  rw [← HS3] at G3
  have HE3 := Lib.hid (HS3.trans (show 0 + x0 * y3 + x1 * y2 + x2 * y1 + x3 * y0 + x4 * (y4 * 19) = x0 * y3 + x1 * y2 + x2 * y1 + x3 * y0 + 19 * (x4 * y4) by grind))
  clear HS3
  obtain ⟨S4, HS4⟩ : ∃ S, S = 0 + x0 * y4 + x1 * y3 + x2 * y2 + x3 * y1 + x4 * y0 := ⟨_, rfl⟩
  rw [← HS4] at G4
  have HE4 := Lib.hid (HS4.trans (show 0 + x0 * y4 + x1 * y3 + x2 * y2 + x3 * y1 + x4 * y0 = x0 * y4 + x1 * y3 + x2 * y2 + x3 * y1 + x4 * y0 by grind))
  clear HS4
  clear ix0 ix1 ix2 ix3 ix4
  clear iy0 iy1 iy2 iy3 iy4
  clear a0 a1 a2 a3 a4 b0 b1 b2 b3 b4
  refine wp_loop_rounds 6 ?_
  rw [rounds_succ]; go_wp2_with fail
  refine (wadd_o _ _ _ _ _ _ _ _ G0 (by decide) ⟨by omega, by omega⟩ (by go_simp) (by go_simp) (by go_simp) (by go_simp)).mono ?_
  clear G0
  rintro e w1 ⟨h0, v0, t0, q0, rfl, M0, rfl⟩
  have z1 := M0.low
  have z2 := M0.over
  have z3 := M0.hi0
  have z4 := M0.hi1
  have z5 := M0.lo0
  have z6 := M0.lo1
  go_wp2
  go_region
  clear z1 z2 z3 z4 z5 z6
  go_wp2_with fail
  rw [rounds_succ]; go_wp2_with fail
  refine (wadd_o _ _ _ _ _ _ _ _ G1 (by decide) ⟨M0.q0, M0.q1⟩ (by go_simp) (by go_simp) (by go_simp) (by go_simp)).mono ?_
  clear G1
  rintro e w1 ⟨h1, v1, t1, q1, rfl, M1, rfl⟩
  have z1 := M1.low
  have z2 := M1.over
  have z3 := M1.hi0
  have z4 := M1.hi1
  have z5 := M1.lo0
  have z6 := M1.lo1
  go_wp2
  go_region
  clear z1 z2 z3 z4 z5 z6
  go_wp2_with fail
  rw [rounds_succ]; go_wp2_with fail
  refine (wadd_o _ _ _ _ _ _ _ _ G2 (by decide) ⟨M1.q0, M1.q1⟩ (by go_simp) (by go_simp) (by go_simp) (by go_simp)).mono ?_
  clear G2
  rintro e w1 ⟨h2, v2, t2, q2, rfl, M2, rfl⟩
  have z1 := M2.low
  have z2 := M2.over
  have z3 := M2.hi0
  have z4 := M2.hi1
  have z5 := M2.lo0
  have z6 := M2.lo1
  go_wp2
  go_region
  clear z1 z2 z3 z4 z5 z6
  go_wp2_with fail
  rw [rounds_succ]; go_wp2_with fail
  refine (wadd_o _ _ _ _ _ _ _ _ G3 (by decide) ⟨M2.q0, M2.q1⟩ (by go_simp) (by go_simp) (by go_simp) (by go_simp)).mono ?_
  clear G3
  rintro e w1 ⟨h3, v3, t3, q3, rfl, M3, rfl⟩
  have z1 := M3.low
  have z2 := M3.over
  have z3 := M3.hi0
  have z4 := M3.hi1
  have z5 := M3.lo0
  have z6 := M3.lo1
  go_wp2
  go_region
  clear z1 z2 z3 z4 z5 z6
  go_wp2_with fail
  rw [rounds_succ]; go_wp2_with fail
  refine (wadd_o _ _ _ _ _ _ _ _ G4 (by decide) ⟨M3.q0, M3.q1⟩ (by go_simp) (by go_simp) (by go_simp) (by go_simp)).mono ?_
  clear G4
  rintro e w1 ⟨h4, v4, t4, q4, rfl, M4, rfl⟩
  have z1 := M4.low
  have z2 := M4.over
  have z3 := M4.hi0
  have z4 := M4.hi1
  have z5 := M4.lo0
  have z6 := M4.lo1
  go_wp2
  go_region
  clear z1 z2 z3 z4 z5 z6
  go_wp2_with fail
  rw [rounds_succ]; go_wp2_with fail
  have HL := last_limb q4 t0 M4.q0 M4.q1 M0.t0 M0.t1
  have A1 : ∀ w, (callFunc 73 #[.int .u64 (q4 * 19 % 18446744073709551616), .int .u64 t0, .int .u64 0]).run Try.prog w = .ok (.value (.tuple #[.int .u64 ((q4 * 19 % 18446744073709551616 + t0) % 18446744073709551616), .int .u64 ((q4 * 19 % 18446744073709551616 + t0) / 18446744073709551616)])) w := fun w => by
    have h := add64_run (q4 * 19 % 18446744073709551616) t0 0 (by have := M4.q0; omega) M0.t0 (by omega) (by omega) w
    rwa [Int.add_zero] at h
  refine (mul64_any q4 19 _ (by have := M4.q0; have := M4.q1; omega) (by omega)).mono ?_
  rintro e w1 ⟨rfl, rfl⟩
  generalize (q4 * 19 % 18446744073709551616 + t0) % 18446744073709551616 = rl at *
  generalize (q4 * 19 % 18446744073709551616 + t0) / 18446744073709551616 = rc at *
  generalize q4 * 19 / 18446744073709551616 = qh at *
  generalize q4 * 19 % 18446744073709551616 = ql at *
  have HS := HL.sum
  have HT0 := HL.t0
  have HT1 := HL.t1
  have HQ0 := HL.q0
  have HQ1 := HL.q1
  have z1 := HL.low
  have z2 := HL.over
  have z3 := HL.hi0
  have z4 := HL.hi1
  have z5 := HL.lo0
  have z6 := HL.lo1
  have z7 := M1.t0
  have z8 := M1.t1
  clear HL
  generalize (q4 * 19 + t0) % 2251799813685248 = tt at *
  generalize (q4 * 19 + t0) / 2251799813685248 = qq at *
  have HWD := Lib.hid (mul_wd HX HY HE0.out HE1.out HE2.out HE3.out HE4.out M0.sum M1.sum M2.sum M3.sum M4.sum HS ⟨⟨HT0, HT1⟩, ⟨M1.t0, M1.t1⟩, ⟨M2.t0, M2.t1⟩, ⟨M3.t0, M3.t1⟩, ⟨M4.t0, M4.t1⟩, ⟨HQ0, HQ1⟩⟩)
  clear HS
  go_wp2_with fail
  refine (carried_any _ _ _ _ _ _ _ HWD.out).mono ?_
  rintro e w1 ⟨o0, o1, o2, o3, o4, rfl, hz, hb1⟩
  have Q1 := row_keep hb1 (by exact new5_2 ..) (by simp)
  have B1 : Below w.heap.size w w1 := Below.trans (by go_grown) (hb1.mono (by simp; omega))
  clear hb1 z1 z2 z3 z4 z5 z6 z7 z8
  replace Q1 : w1.heap[w.heap.size + 1 + 1]? = some (.cells #[.int .u64 0, .int .u64 0, .int .u64 0, .int .u64 0, .int .u64 0] 26 (0, 0)) := Q1
  have e1 := ev_one o0 o1 o2 o3 o4
  go_wp2_with ((with_reducible refine guard_list ?_); refine held_store 26 _ _ rfl ?_)
  rename_i K2 HK2
  refine hide_held2 fun t0 HT => ?_
  have h4 : t0[4]? = some (.pointer (some ⟨w.heap.size + 1 + 1, 0, none⟩)) := by rw [HT]; rfl
  have h97 : t0[97]? = some (.agg #[.int .u64 o0, .int .u64 o1, .int .u64 o2, .int .u64 o3, .int .u64 o4]) := by rw [HT]; rfl
  clear HT
  refine st_row rfl 26 (.tmp 4) (.tmp 97) rfl _ #[.int .u64 o0, .int .u64 o1, .int .u64 o2, .int .u64 o3, .int .u64 o4] (eval_tmp2 h4) (eval_tmp2 h97) _ _ Q1 5 tElem (by rfl) (by rfl) e1 ?_
  refine wpList_nil ?_
  show K2 _ _
  refine HK2 _ _ (wp_ret ?_)
  have hres : Try.f32.results = #[.cell 4 26] := by kernel_rfl
  have hp : t0.getD 4 undef = .pointer (some ⟨w.heap.size + 1 + 1, 0, none⟩) := by rw [Array.getD_eq_getD_getElem?, h4]; rfl
  have hrow := row_put (cs' := #[.int .u64 o0, .int .u64 o1, .int .u64 o2, .int .u64 o3, .int .u64 o4]) Q1
  refine ret_row hres _ _ _ hp hrow 5 tElem rfl rfl ?_
  have hb := below_setRow B1 (by omega : w.heap.size ≤ w.heap.size + 1 + 1) #[.int .u64 o0, .int .u64 o1, .int .u64 o2, .int .u64 o3, .int .u64 o4]
  exact ⟨o0, o1, o2, o3, o4, rfl, hz, hb⟩

set_option maxHeartbeats 1000000 in
theorem square_any (x0 x1 x2 x3 x4 : Int) (n : F) (w : World) (hx : El x0 x1 x2 x3 x4 n) :
    Calls Try.prog 33 #[ev x0 x1 x2 x3 x4] w (ElemOut (n * n) w) := by
  go_enter Try.func33, Try.ntmps33
  go_wp2_with fail
  refine (mul_any _ _ _ _ _ _ _ _ _ _ _ _ _ hx hx).mono ?_
  rintro e w1 ⟨z0, z1, z2, z3, z4, rfl, hz, hb1⟩
  have Q1 := row_keep hb1 (new2_1 ..) (by simp)
  have B1 : Below w.heap.size w w1 := Below.trans (by go_grown) (hb1.mono (by simp; omega))
  clear hb1
  go_wp2_with (refine st_row rfl 26 (.tmp 2) _ rfl _ #[.int .u64 z0, .int .u64 z1, .int .u64 z2, .int .u64 z3, .int .u64 z4] (by rfl) (by rfl) _ _ Q1 5 tElem (by rfl) (by rfl) (ev_one ..) ?_)
  refine ret_row rfl _ _ _ rfl (row_put Q1) 5 tElem (by rfl) rfl ?_
  exact ⟨_, _, _, _, _, rfl, hz, below_setRow B1 (by omega) _⟩
end Go.Proofs.Ytciakfhjjnmeeaa
