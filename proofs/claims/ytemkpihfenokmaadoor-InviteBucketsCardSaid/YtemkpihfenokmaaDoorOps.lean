/- A drawn region whose operations may bear guards: each operation is met once, by what its operands hold. Said over any program. -/
import Derived.Test.YtemkpihfenokmaaDoorHead2
namespace Go.Proofs.YtemkpihfenokmaaDoor
open Go.RowKit
variable {P : Program}

/-- What an invariant over what has come up so far has to keep, step by step. -/
def StepI (P : Program) (Q : Exit → Act → World → Prop) (l : List Oper) (n : Nat) (I : (Nat → Bool) → Act → World → Prop) : Prop :=
  ∀ (f : Nat → Bool) (a : Act) (w : World) (i : Nat) (o : Oper), i < n → l[i]? = some o → f i = false → (∀ e ∈ o.after, Region.binds .any e = true → f e.on = true) → I f a w →
      ∀ K : Act → World → Prop, (∀ a' w', I (upF f i) a' w' → K a' w') → if Region.wanted o (yielded l.toArray a.tmps) = true then o.wp P a w K Q else K (a.put o.dst undef) w
/-- .. and in the end. -/
def TailI (P : Program) (Q : Exit → Act → World → Prop) (l : List Oper) (n : Nat) (I : (Nat → Bool) → Act → World → Prop) : Prop :=
  ∀ (f : Nat → Bool) (a : Act) (w : World), (∀ j, j < n → f j = true) → I f a w → wpList P l.toArray Q (l.drop n) a w
/-- G follows from any invariant that begins at the frame and the world W. -/
def ByInv (P : Program) (Q : Exit → Act → World → Prop) (l : List Oper) (n i0 : Nat) (a : Act) (W : World) (G : Prop) : Prop :=
  ∀ I : (Nat → Bool) → Act → World → Prop, I (fun j => decide (j < i0)) a W → StepI P Q l n I → TailI P Q l n I → G

theorem byInv_region {id : Nat} {Q : Exit → Act → World → Prop} {a : Act} {w : World} {l : List Oper} {n : Nat} (hm : P.follows .mixedOrders = true) (hB : headB l.toArray n = true) :
    ByInv P Q l n 0 a w.drew ((Code.region id l.toArray true).wp P Q a w) := fun I h0 st tl => wp_region_inv n hm hB I (by simpa using h0) st tl

theorem byInv_list {Q : Exit → Act → World → Prop} {a : Act} {w : World} {l : List Oper} {n : Nat} (i0 : Nat) (hi0 : i0 ≤ n) (hB : (backB l.toArray && decide (n ≤ l.length)) = true) :
    ByInv P Q l n i0 a w (wpList P l.toArray Q (l.drop i0) a w) := by
  intro I h0 st tl
  simp only [Bool.and_eq_true, decide_eq_true_eq] at hB
  obtain ⟨hb, hn⟩ := hB
  have key : ∀ (m i : Nat) (a : Act) (w : World), i + m = n → I (fun j => decide (j < i)) a w → wpList P l.toArray Q (l.drop i) a w := by
    intro m
    induction m with
    | zero =>
      intro i a w h hI
      obtain rfl : i = n := by omega
      exact tl _ a w (fun j hj => by simp [hj]) hI
    | succ m ih =>
      intro i a w h hI
      have hi : i < l.length := by omega
      rw [List.drop_eq_getElem_cons hi]
      refine wpList_step fun K hK => ?_
      refine st (fun j => decide (j < i)) a w i l[i] (by omega) (List.getElem?_eq_getElem hi) (by simp) (fun e he hbe => ?_) hI K (fun a' w' h' => hK _ _ (ih (i + 1) a' w' (by omega) ?_))
      · have h1 := List.all_eq_true.1 hb i (List.mem_range.2 (by simpa using hi))
        have e2 : l.toArray[i]? = some l[i] := by simp [hi]
        rw [e2] at h1
        have h2 := Array.all_eq_true_iff_forall_mem.1 h1 e he
        rw [hbe] at h2
        simpa using h2
      · have e : upF (fun j => decide (j < i)) i = fun j => decide (j < i + 1) := by
          funext j
          simp only [upF]
          split
          · rename_i hj; subst hj; simp
          · rename_i hj
            exact decide_eq_decide.2 ⟨fun h => by omega, fun h => by omega⟩
        rw [e] at h'; exact h'
  exact key (n - i0) i0 a w (by omega) h0

theorem fillA_self (D : Nat → Nat) (f : Nat → Bool) (t : Array Value) : ∀ n, (∀ j, j < n → D j < t.size) → fillA D f (fun j => t.getD (D j) undef) n t = t
  | 0, _ => rfl
  | n + 1, h => by
    simp only [fillA]
    rw [fillA_self D f t n (fun j hj => h j (by omega))]
    split
    · apply Array.ext_getElem?
      intro k
      rw [Array.getElem?_setIfInBounds]
      split
      · rename_i e; subst e
        have := h n (by omega)
        simp [this, Array.getD_eq_getD_getElem?]
      · rfl
    · rfl

theorem wp_ops_core {G : Prop} {Q : Exit → Act → World → Prop} {w : World} {l : List Oper} {t0 : Array Value} {df : List Deferred} (n : Nat) (D : Nat → Nat) (A : Nat → Option Nat) (V : Nat → Value → Prop) (S : World → Prop) (B : Nat)
    (i0 : Nat) (hinv : ByInv P Q l n i0 ⟨t0, df⟩ w G) (hpre : ∀ j, j < i0 → j < n → A j = none ∧ ∃ x, t0[D j]? = some x ∧ V j x) (hD : ∀ i j, i < n → j < n → j ≠ i → D j ≠ D i) (hDs : ∀ i, i < n → D i < t0.size) (h0 : S w) (hSB : ∀ w, S w → B ≤ w.heap.size)
    (hSa : ∀ w cs t, S w → S (w.alloc (.cells cs t)))
    (hval : ∀ i o, i0 ≤ i → i < n → l[i]? = some o → A i = none → o.dst = some (D i) ∧ ∀ (a : Act) (w : World), S w → (∀ k, (∀ j, j < n → D j ≠ k) → a.tmps[k]? = t0[k]?) →
      (∀ j, (∃ e ∈ o.after, Region.binds .any e = true ∧ e.on = j) → j < n → A j = none → ∃ x, a.tmps[D j]? = some x ∧ V j x) → ∀ K : Act → World → Prop, (∀ x w', V i x → S w' → Below w.heap.size w w' → K (a.put (some (D i)) x) w') →
        if Region.wanted o (yielded l.toArray a.tmps) = true then o.wp P a w K Q else K (a.put (some (D i)) undef) w)
    (hall : ∀ i o sz, i0 ≤ i → i < n → l[i]? = some o → A i = some sz → o.dst = some (D i) ∧ o.guard = none ∧ ∃ (t : TypeId) (cs : Array Value), cs.size = sz ∧ ∀ (a : Act) (w : World) (K : Act → World → Prop),
      K (a.put (some (D i)) (.pointer (some ⟨w.heap.size, 0, none⟩))) (w.alloc (.cells cs t)) → o.wp P a w K Q)
    (tail : ∀ (v : Nat → Value) (w : World), S w → (∀ i, i < n → A i = none → V i (v i)) → (∀ i, i < n → ∀ sz, A i = some sz → OwnRow B sz w (v i)) →
      (∀ i j, i < n → j < n → i ≠ j → (A i).isSome = true → (A j).isSome = true → v i ≠ v j) → wpList P l.toArray Q (l.drop n) ⟨fillA D (fun _ => true) v n t0, df⟩ w) :
    G := by
  refine hinv (fun f a w => (∀ j, j < i0 → f j = true) ∧ HI n D A V S B t0 df f a w) ⟨fun j hj => by simp [hj], fun j => t0.getD (D j) undef, by rw [fillA_self D _ t0 n hDs], h0, (fun j hj h _ => ?_), (fun j hj h sz hs => ?_), (fun i j hi hj _ h _ hs _ => ?_)⟩ ?_ ?_
  · obtain ⟨_, x, hx, hv⟩ := hpre j (by simpa using h) hj
    simpa [Array.getD_eq_getD_getElem?, hx] using hv
  · have := (hpre j (by simpa using h) hj).1
    rw [this] at hs; cases hs
  · have := (hpre i (by simpa using h) hi).1
    rw [this] at hs; cases hs
  · rintro f a w i o hi ho hfi hdep ⟨hge, v, rfl, hS, hV, hA, hne⟩ K hK
    have hi0 : i0 ≤ i := by
      rcases Nat.lt_or_ge i i0 with h | h
      · have := hge i h; rw [hfi] at this; cases this
      · exact h
    have hge' : ∀ j, j < i0 → upF f i j = true := fun j hj => by
      simp only [upF]; split
      · rfl
      · exact hge j hj
    have hput : ∀ x, (Act.put ⟨fillA D f v n t0, df⟩ (some (D i)) x) = ⟨fillA D (upF f i) (upV v i x) n t0, df⟩ := by
      intro x
      show (⟨(fillA D f v n t0).setIfInBounds (D i) x, df⟩ : Act) = _
      rw [fillA_put D f v i x n t0 hi hfi (fun j hj hne => hD i j hi hj hne)]
    have hup : ∀ j, j ≠ i → ∀ x, upF f i j = f j ∧ upV v i x j = v j := fun j hj x => ⟨by simp only [upF]; rw [if_neg hj], by simp only [upV]; rw [if_neg hj]⟩
    have hself : ∀ x, upV v i x i = x := fun x => by simp [upV]
    cases hAi : A i with
    | none =>
      obtain ⟨h1, h3⟩ := hval i o hi0 hi ho hAi
      rw [h1]
      refine h3 _ w hS (fun k hk => fillA_other D f v k n t0 hk) (fun j hj hjn hAj => ?_) K (fun x w' hx hS' hb => ?_)
      · obtain ⟨e, he, hbn, rfl⟩ := hj
        have hfj := hdep e he hbn
        exact ⟨v e.on, fillA_get D f v e.on n t0 hjn hfj (hDs _ hjn) (fun k hk hne => hD _ k hjn hk hne), hV _ hjn hfj hAj⟩
      · rw [hput x]
        refine hK _ _ ⟨hge', _, rfl, hS', ?_, ?_, ?_⟩
        · intro j hj hf hn
          by_cases e : j = i
          · subst e; rw [hself]; exact hx
          · obtain ⟨e1, e2⟩ := hup j e x
            rw [e1] at hf; rw [e2]; exact hV j hj hf hn
        · intro j hj hf sz hs
          have e : j ≠ i := fun e => by subst e; rw [hAi] at hs; cases hs
          obtain ⟨e1, e2⟩ := hup j e x
          rw [e1] at hf; rw [e2]; exact (hA j hj hf sz hs).keep hb
        · intro j k hj hk hjk hfj hfk hsj hsk
          have e : j ≠ i := fun e => by subst e; rw [hAi] at hsj; cases hsj
          have e' : k ≠ i := fun e => by subst e; rw [hAi] at hsk; cases hsk
          obtain ⟨e1, e2⟩ := hup j e x
          obtain ⟨e3, e4⟩ := hup k e' x
          rw [e1] at hfj; rw [e3] at hfk; rw [e2, e4]
          exact hne j k hj hk hjk hfj hfk hsj hsk
    | some sz =>
      obtain ⟨h1, h2, t, cs, hcs, h3⟩ := hall i o sz hi0 hi ho hAi
      have hw : Region.wanted o (yielded l.toArray (fillA D f v n t0)) = true := by simp [Region.wanted, h2]
      rw [if_pos hw]
      refine h3 _ w K ?_
      rw [hput]
      have hBw := hSB w hS
      have hbel : Below w.heap.size w (w.alloc (.cells cs t)) := (Below.refl _ _).alloc (Nat.le_refl _) _
      have hold : ∀ j, j < n → f j = true → (A j).isSome = true → v j ≠ .pointer (some ⟨w.heap.size, 0, none⟩) := by
        intro j hj hf hs he
        obtain ⟨s, hs'⟩ := Option.isSome_iff_exists.1 hs
        obtain ⟨g, t', cs', hv, _, hr, _⟩ := hA j hj hf s hs'
        rw [hv] at he
        have hg : g = w.heap.size := by injection he with he; injection he with he; injection he
        have := row_lt hr
        omega
      refine hK _ _ ⟨hge', _, rfl, hSa w cs t hS, ?_, ?_, ?_⟩
      · intro j hj hf hn
        have e : j ≠ i := fun e => by subst e; rw [hAi] at hn; cases hn
        obtain ⟨e1, e2⟩ := hup j e (.pointer (some ⟨w.heap.size, 0, none⟩))
        rw [e1] at hf; rw [e2]; exact hV j hj hf hn
      · intro j hj hf s hs
        by_cases e : j = i
        · subst e
          rw [hself]
          rw [hAi] at hs
          obtain rfl := Option.some.inj hs
          exact ⟨w.heap.size, t, cs, rfl, hBw, row_new, hcs⟩
        · obtain ⟨e1, e2⟩ := hup j e (.pointer (some ⟨w.heap.size, 0, none⟩))
          rw [e1] at hf; rw [e2]; exact (hA j hj hf s hs).keep hbel
      · intro j k hj hk hjk hfj hfk hsj hsk
        by_cases ej : j = i
        · subst ej
          have ek : k ≠ j := fun h => hjk h.symm
          obtain ⟨e3, e4⟩ := hup k ek (.pointer (some ⟨w.heap.size, 0, none⟩))
          rw [e3] at hfk; rw [hself, e4]
          exact fun h => hold k hk hfk hsk h.symm
        · by_cases ek : k = i
          · subst ek
            obtain ⟨e1, e2⟩ := hup j ej (.pointer (some ⟨w.heap.size, 0, none⟩))
            rw [e1] at hfj; rw [hself, e2]
            exact hold j hj hfj hsj
          · obtain ⟨e1, e2⟩ := hup j ej (.pointer (some ⟨w.heap.size, 0, none⟩))
            obtain ⟨e3, e4⟩ := hup k ek (.pointer (some ⟨w.heap.size, 0, none⟩))
            rw [e1] at hfj; rw [e3] at hfk; rw [e2, e4]
            exact hne j k hj hk hjk hfj hfk hsj hsk
  · rintro f a w hfull ⟨_, v, rfl, hS, hV, hA, hne⟩
    rw [fillA_congr D f (fun _ => true) v n t0 hfull]
    exact tail v w hS (fun i hi hn => hV i hi (hfull i hi) hn) (fun i hi sz hs => hA i hi (hfull i hi) sz hs) (fun i j hi hj hij hsi hsj => hne i j hi hj hij (hfull i hi) (hfull j hj) hsi hsj)


theorem wp_region_ops {id : Nat} {Q : Exit → Act → World → Prop} {w : World} {l : List Oper} {t0 : Array Value} {df : List Deferred} (n : Nat) (D : Nat → Nat) (A : Nat → Option Nat) (V : Nat → Value → Prop) (S : World → Prop) (B : Nat)
    (hm : P.follows .mixedOrders = true) (hB : headB l.toArray n = true) (hD : ∀ i j, i < n → j < n → j ≠ i → D j ≠ D i) (hDs : ∀ i, i < n → D i < t0.size) (h0 : S w.drew) (hSB : ∀ w, S w → B ≤ w.heap.size)
    (hSa : ∀ w cs t, S w → S (w.alloc (.cells cs t)))
    (hval : ∀ i o, i < n → l[i]? = some o → A i = none → o.dst = some (D i) ∧ ∀ (a : Act) (w : World), S w → (∀ k, (∀ j, j < n → D j ≠ k) → a.tmps[k]? = t0[k]?) →
      (∀ j, (∃ e ∈ o.after, Region.binds .any e = true ∧ e.on = j) → j < n → A j = none → ∃ x, a.tmps[D j]? = some x ∧ V j x) → ∀ K : Act → World → Prop, (∀ x w', V i x → S w' → Below w.heap.size w w' → K (a.put (some (D i)) x) w') →
        if Region.wanted o (yielded l.toArray a.tmps) = true then o.wp P a w K Q else K (a.put (some (D i)) undef) w)
    (hall : ∀ i o sz, i < n → l[i]? = some o → A i = some sz → o.dst = some (D i) ∧ o.guard = none ∧ ∃ (t : TypeId) (cs : Array Value), cs.size = sz ∧ ∀ (a : Act) (w : World) (K : Act → World → Prop),
      K (a.put (some (D i)) (.pointer (some ⟨w.heap.size, 0, none⟩))) (w.alloc (.cells cs t)) → o.wp P a w K Q)
    (tail : ∀ (v : Nat → Value) (w : World), S w → (∀ i, i < n → A i = none → V i (v i)) → (∀ i, i < n → ∀ sz, A i = some sz → OwnRow B sz w (v i)) →
      (∀ i j, i < n → j < n → i ≠ j → (A i).isSome = true → (A j).isSome = true → v i ≠ v j) → wpList P l.toArray Q (l.drop n) ⟨fillA D (fun _ => true) v n t0, df⟩ w) :
    (Code.region id l.toArray true).wp P Q ⟨t0, df⟩ w :=
  wp_ops_core n D A V S B 0 (byInv_region hm hB) (fun j hj => absurd hj (Nat.not_lt_zero j)) hD hDs h0 hSB hSa (fun i o _ hi => hval i o hi) (fun i o sz _ hi => hall i o sz hi) tail
end Go.Proofs.YtemkpihfenokmaaDoor
