/- A drawn region without new variables, from its first operation to its last: each operation is met once, and what is left is what each slot holds. Said over any program. -/
import Derived.Test.YtemkpihfenokmaaDoorOps2
namespace Go.Proofs.YtemkpihfenokmaaDoor
open Go.RowKit
variable {P : Program}

/-- A call hands back a value that is so, and leaves what was there. -/
def Gives (V : Value → Prop) (w : World) (e : Ending) (w' : World) : Prop := ∃ r, e = .returned r ∧ V r ∧ Below w.heap.size w w'

/-- Does operation o wait for operation j? -/
def depB (o : Oper) (j : Nat) : Bool := o.after.toList.any fun e => Region.binds .any e && e.on == j

theorem depB_mem {o : Oper} {j : Nat} (h : depB o j = true) : ∃ e ∈ o.after, Region.binds .any e = true ∧ e.on = j := by
  obtain ⟨e, he, h2⟩ := List.any_eq_true.1 h
  simp only [Bool.and_eq_true, beq_iff_eq] at h2
  exact ⟨e, Array.mem_toList_iff.1 he, h2.1, h2.2⟩

theorem wp_core_all {G : Prop} {Q : Exit → Act → World → Prop} {w : World} {l : List Oper} {t0 : Array Value} {df : List Deferred} (n : Nat) (D : Nat → Nat) (V : Nat → Value → Prop) (S : World → Prop)
    (i0 : Nat) (hi0 : i0 ≤ n) (hinv : ByInv P Q l n i0 ⟨t0, df⟩ w G) (hpre : ∀ j, j < i0 → ∃ x, t0[D j]? = some x ∧ V j x) (hl : l.length = n + 1) (hD : ∀ i j, i < n + 1 → j < n + 1 → j ≠ i → D j ≠ D i) (hDs : ∀ i, i < n + 1 → D i < t0.size) (h0 : S w)
    (hSb : ∀ w w', S w → Below w.heap.size w w' → S w')
    (hval : ∀ i o, i0 ≤ i → i < n + 1 → l[i]? = some o → o.dst = some (D i) ∧ ∀ (a : Act) (w : World), S w → (∀ k, (∀ j, j < n + 1 → D j ≠ k) → a.tmps[k]? = t0[k]?) →
      (∀ j, depB o j = true → j < n → ∃ x, a.tmps[D j]? = some x ∧ V j x) → ∀ K : Act → World → Prop, (∀ x w', V i x → Below w.heap.size w w' → K (a.put (some (D i)) x) w') →
        if Region.wanted o (yielded l.toArray a.tmps) = true then o.wp P a w K Q else K (a.put (some (D i)) undef) w)
    (post : ∀ (t : Array Value) (w : World), t.size = t0.size → (∀ k, (∀ j, j < n + 1 → D j ≠ k) → t[k]? = t0[k]?) → (∀ j, j < n + 1 → ∃ x, t[D j]? = some x ∧ V j x) → S w → Q .normal ⟨t, df⟩ w) :
    G := by
  refine wp_ops_core n D (fun _ => none) V S 0 i0 hinv (fun j hj _ => ⟨rfl, hpre j hj⟩) (fun i j hi hj => hD i j (by omega) (by omega)) (fun i hi => hDs i (by omega)) h0 (fun _ _ => Nat.zero_le _) ?_ ?_ (fun i o sz _ _ _ h => by cases h) ?_
  · intro w cs t h; exact hSb _ _ h ((Below.refl _ _).alloc (Nat.le_refl _) _)
  · intro i o hi0' hi ho _
    obtain ⟨h1, h2⟩ := hval i o hi0' (by omega) ho
    exact ⟨h1, fun a w hS hold hin K hK => h2 a w hS (fun k hk => hold k (fun j hj => hk j (by omega))) (fun j hj hjn => hin j (depB_mem hj) hjn rfl) K (fun x w' hx hb => hK x w' hx (hSb _ _ hS hb) hb)⟩
  · intro v w hS hV _ _
    have hn : n < l.length := by omega
    have hdrop : l.drop n = [l[n]] := by
      rw [List.drop_eq_getElem_cons hn, List.drop_eq_nil_of_le (by omega)]
    rw [hdrop]
    obtain ⟨h1, h2⟩ := hval n l[n] hi0 (by omega) (List.getElem?_eq_getElem hn)
    have hsz : (fillA D (fun _ => true) v n t0).size = t0.size := fillA_size D _ v n t0
    have hget : ∀ j, j < n → (fillA D (fun _ => true) v n t0)[D j]? = some (v j) := fun j hj => fillA_get D _ v j n t0 hj rfl (hDs _ (by omega)) (fun k hk hne => hD _ k (by omega) (by omega) hne)
    refine wpList_step fun K hK => ?_
    rw [h1]
    refine h2 _ w hS (fun k hk => fillA_other D _ v k n t0 (fun j hj => hk j (by omega))) (fun j _ hj => ⟨v j, hget j hj, hV j hj rfl⟩) K (fun x w' hx hb => hK _ _ (wpList_nil ?_))
    refine post ((fillA D (fun _ => true) v n t0).setIfInBounds (D n) x) w' (by simp [hsz]) (fun k hk => ?_) (fun j hj => ?_) (hSb _ _ hS hb)
    · rw [Array.getElem?_setIfInBounds, if_neg (hk n (by omega))]
      exact fillA_other D _ v k n t0 (fun j hj => hk j (by omega))
    · by_cases e : j = n
      · subst e
        refine ⟨x, ?_, hx⟩
        rw [Array.getElem?_setIfInBounds, if_pos rfl, if_pos (by rw [hsz]; exact hDs _ (by omega))]
      · refine ⟨v j, ?_, hV j (by omega) rfl⟩
        rw [Array.getElem?_setIfInBounds, if_neg (hD j n (by omega) (by omega) (fun h => e h.symm))]
        exact hget j (by omega)

theorem wp_region_all {id : Nat} {Q : Exit → Act → World → Prop} {w : World} {l : List Oper} {t0 : Array Value} {df : List Deferred} (n : Nat) (D : Nat → Nat) (V : Nat → Value → Prop) (S : World → Prop)
    (hm : P.follows .mixedOrders = true) (hB : headB l.toArray n = true) (hl : l.length = n + 1) (hD : ∀ i j, i < n + 1 → j < n + 1 → j ≠ i → D j ≠ D i) (hDs : ∀ i, i < n + 1 → D i < t0.size) (h0 : S w.drew)
    (hSb : ∀ w w', S w → Below w.heap.size w w' → S w')
    (hval : ∀ i o, i < n + 1 → l[i]? = some o → o.dst = some (D i) ∧ ∀ (a : Act) (w : World), S w → (∀ k, (∀ j, j < n + 1 → D j ≠ k) → a.tmps[k]? = t0[k]?) →
      (∀ j, depB o j = true → j < n → ∃ x, a.tmps[D j]? = some x ∧ V j x) → ∀ K : Act → World → Prop, (∀ x w', V i x → Below w.heap.size w w' → K (a.put (some (D i)) x) w') →
        if Region.wanted o (yielded l.toArray a.tmps) = true then o.wp P a w K Q else K (a.put (some (D i)) undef) w)
    (post : ∀ (t : Array Value) (w : World), t.size = t0.size → (∀ k, (∀ j, j < n + 1 → D j ≠ k) → t[k]? = t0[k]?) → (∀ j, j < n + 1 → ∃ x, t[D j]? = some x ∧ V j x) → S w → Q .normal ⟨t, df⟩ w) :
    (Code.region id l.toArray true).wp P Q ⟨t0, df⟩ w :=
  wp_core_all n D V S 0 (Nat.zero_le _) (byInv_region hm hB) (fun j hj => absurd hj (Nat.not_lt_zero j)) hl hD hDs h0 hSb (fun i o _ hi => hval i o hi) post

theorem wp_list_all {Q : Exit → Act → World → Prop} {w : World} {l : List Oper} {t0 : Array Value} {df : List Deferred} (n : Nat) (D : Nat → Nat) (V : Nat → Value → Prop) (S : World → Prop)
    (hB : (backB l.toArray && decide (n ≤ l.length)) = true) (hl : l.length = n + 1) (hD : ∀ i j, i < n + 1 → j < n + 1 → j ≠ i → D j ≠ D i) (hDs : ∀ i, i < n + 1 → D i < t0.size) (h0 : S w)
    (hSb : ∀ w w', S w → Below w.heap.size w w' → S w')
    (hval : ∀ i o, i < n + 1 → l[i]? = some o → o.dst = some (D i) ∧ ∀ (a : Act) (w : World), S w → (∀ k, (∀ j, j < n + 1 → D j ≠ k) → a.tmps[k]? = t0[k]?) →
      (∀ j, depB o j = true → j < n → ∃ x, a.tmps[D j]? = some x ∧ V j x) → ∀ K : Act → World → Prop, (∀ x w', V i x → Below w.heap.size w w' → K (a.put (some (D i)) x) w') →
        if Region.wanted o (yielded l.toArray a.tmps) = true then o.wp P a w K Q else K (a.put (some (D i)) undef) w)
    (post : ∀ (t : Array Value) (w : World), t.size = t0.size → (∀ k, (∀ j, j < n + 1 → D j ≠ k) → t[k]? = t0[k]?) → (∀ j, j < n + 1 → ∃ x, t[D j]? = some x ∧ V j x) → S w → Q .normal ⟨t, df⟩ w) :
    wpList P l.toArray Q l ⟨t0, df⟩ w :=
  wp_core_all n D V S 0 (Nat.zero_le _) (byInv_list 0 (Nat.zero_le _) hB) (fun j hj => absurd hj (Nat.not_lt_zero j)) hl hD hDs h0 hSb (fun i o _ hi => hval i o hi) post

theorem wp_from_all {Q : Exit → Act → World → Prop} {w : World} {l : List Oper} {t0 : Array Value} {df : List Deferred} (n : Nat) (D : Nat → Nat) (V : Nat → Value → Prop) (S : World → Prop)
    (i0 : Nat) (hi0 : i0 ≤ n) (hB : (backB l.toArray && decide (n ≤ l.length)) = true) (hpre : ∀ j, j < i0 → ∃ x, t0[D j]? = some x ∧ V j x) (hl : l.length = n + 1) (hD : ∀ i j, i < n + 1 → j < n + 1 → j ≠ i → D j ≠ D i) (hDs : ∀ i, i < n + 1 → D i < t0.size) (h0 : S w)
    (hSb : ∀ w w', S w → Below w.heap.size w w' → S w')
    (hval : ∀ i o, i0 ≤ i → i < n + 1 → l[i]? = some o → o.dst = some (D i) ∧ ∀ (a : Act) (w : World), S w → (∀ k, (∀ j, j < n + 1 → D j ≠ k) → a.tmps[k]? = t0[k]?) →
      (∀ j, depB o j = true → j < n → ∃ x, a.tmps[D j]? = some x ∧ V j x) → ∀ K : Act → World → Prop, (∀ x w', V i x → Below w.heap.size w w' → K (a.put (some (D i)) x) w') →
        if Region.wanted o (yielded l.toArray a.tmps) = true then o.wp P a w K Q else K (a.put (some (D i)) undef) w)
    (post : ∀ (t : Array Value) (w : World), t.size = t0.size → (∀ k, (∀ j, j < n + 1 → D j ≠ k) → t[k]? = t0[k]?) → (∀ j, j < n + 1 → ∃ x, t[D j]? = some x ∧ V j x) → S w → Q .normal ⟨t, df⟩ w) :
    wpList P l.toArray Q (l.drop i0) ⟨t0, df⟩ w :=
  wp_core_all n D V S i0 hi0 (byInv_list i0 hi0 hB) hpre hl hD hDs h0 hSb hval post

/-- The region's head by what each slot holds; new variables in any order; its last operations are walked as a list. -/
theorem wp_core_most {G : Prop} {Q : Exit → Act → World → Prop} {w : World} {l : List Oper} {t0 : Array Value} {df : List Deferred} (n : Nat) (D : Nat → Nat) (A : Nat → Option Nat) (V : Nat → Value → Prop) (S : World → Prop) (B : Nat)
    (i0 : Nat) (hinv : ByInv P Q l n i0 ⟨t0, df⟩ w G) (hpre : ∀ j, j < i0 → j < n → A j = none ∧ ∃ x, t0[D j]? = some x ∧ V j x) (hD : ∀ i j, i < n → j < n → j ≠ i → D j ≠ D i) (hDs : ∀ i, i < n → D i < t0.size) (h0 : S w) (hSB : ∀ w, S w → B ≤ w.heap.size)
    (hSb : ∀ w w', S w → Below w.heap.size w w' → S w')
    (hval : ∀ i o, i0 ≤ i → i < n → l[i]? = some o → A i = none → o.dst = some (D i) ∧ ∀ (a : Act) (w : World), S w → (∀ k, (∀ j, j < n → D j ≠ k) → a.tmps[k]? = t0[k]?) →
      (∀ j, depB o j = true → j < n → A j = none → ∃ x, a.tmps[D j]? = some x ∧ V j x) → ∀ K : Act → World → Prop, (∀ x w', V i x → Below w.heap.size w w' → K (a.put (some (D i)) x) w') →
        if Region.wanted o (yielded l.toArray a.tmps) = true then o.wp P a w K Q else K (a.put (some (D i)) undef) w)
    (hall : ∀ i o sz, i0 ≤ i → i < n → l[i]? = some o → A i = some sz → o.dst = some (D i) ∧ o.guard = none ∧ ∃ (t : TypeId) (cs : Array Value), cs.size = sz ∧ ∀ (a : Act) (w : World) (K : Act → World → Prop),
      K (a.put (some (D i)) (.pointer (some ⟨w.heap.size, 0, none⟩))) (w.alloc (.cells cs t)) → o.wp P a w K Q)
    (tail : ∀ (t : Array Value) (w : World), t.size = t0.size → (∀ k, (∀ j, j < n → D j ≠ k) → t[k]? = t0[k]?) → (∀ j, j < n → A j = none → ∃ x, t[D j]? = some x ∧ V j x) →
      (∀ j, j < n → ∀ sz, A j = some sz → ∃ g, t[D j]? = some (.pointer (some ⟨g, 0, none⟩)) ∧ B ≤ g ∧ ∃ ty cs, w.heap[g]? = some (.cells cs ty (0, 0)) ∧ cs.size = sz) →
      (∀ i j, i < n → j < n → i ≠ j → (A i).isSome = true → (A j).isSome = true → t[D i]? ≠ t[D j]?) → S w → wpList P l.toArray Q (l.drop n) ⟨t, df⟩ w) :
    G := by
  refine wp_ops_core n D A V S B i0 hinv hpre hD hDs h0 hSB ?_ ?_ hall ?_
  · intro w cs t h; exact hSb _ _ h ((Below.refl _ _).alloc (Nat.le_refl _) _)
  · intro i o hi0' hi ho hA
    obtain ⟨h1, h2⟩ := hval i o hi0' hi ho hA
    exact ⟨h1, fun a w hS hold hin K hK => h2 a w hS hold (fun j hj hjn hAj => hin j (depB_mem hj) hjn hAj) K (fun x w' hx hb => hK x w' hx (hSb _ _ hS hb) hb)⟩
  · intro v w hS hV hA hne
    have hget : ∀ j, j < n → (fillA D (fun _ => true) v n t0)[D j]? = some (v j) := fun j hj => fillA_get D _ v j n t0 hj rfl (hDs _ hj) (fun k hk hne => hD _ k hj hk hne)
    refine tail _ w (fillA_size D _ v n t0) (fun k hk => fillA_other D _ v k n t0 hk) (fun j hj hAj => ⟨v j, hget j hj, hV j hj hAj⟩) (fun j hj sz hs => ?_) (fun i j hi hj hij hsi hsj => ?_) hS
    · obtain ⟨g, t, cs, h1, h2, h3, h4⟩ := hA j hj sz hs
      exact ⟨g, by rw [hget j hj, h1], h2, t, cs, h3, h4⟩
    · rw [hget i hi, hget j hj]
      exact fun h => hne i j hi hj hij hsi hsj (Option.some.inj h)

theorem wp_region_most {id : Nat} {Q : Exit → Act → World → Prop} {w : World} {l : List Oper} {t0 : Array Value} {df : List Deferred} (n : Nat) (D : Nat → Nat) (A : Nat → Option Nat) (V : Nat → Value → Prop) (S : World → Prop) (B : Nat)
    (hm : P.follows .mixedOrders = true) (hB : headB l.toArray n = true) (hD : ∀ i j, i < n → j < n → j ≠ i → D j ≠ D i) (hDs : ∀ i, i < n → D i < t0.size) (h0 : S w.drew) (hSB : ∀ w, S w → B ≤ w.heap.size)
    (hSb : ∀ w w', S w → Below w.heap.size w w' → S w')
    (hval : ∀ i o, i < n → l[i]? = some o → A i = none → o.dst = some (D i) ∧ ∀ (a : Act) (w : World), S w → (∀ k, (∀ j, j < n → D j ≠ k) → a.tmps[k]? = t0[k]?) →
      (∀ j, depB o j = true → j < n → A j = none → ∃ x, a.tmps[D j]? = some x ∧ V j x) → ∀ K : Act → World → Prop, (∀ x w', V i x → Below w.heap.size w w' → K (a.put (some (D i)) x) w') →
        if Region.wanted o (yielded l.toArray a.tmps) = true then o.wp P a w K Q else K (a.put (some (D i)) undef) w)
    (hall : ∀ i o sz, i < n → l[i]? = some o → A i = some sz → o.dst = some (D i) ∧ o.guard = none ∧ ∃ (t : TypeId) (cs : Array Value), cs.size = sz ∧ ∀ (a : Act) (w : World) (K : Act → World → Prop),
      K (a.put (some (D i)) (.pointer (some ⟨w.heap.size, 0, none⟩))) (w.alloc (.cells cs t)) → o.wp P a w K Q)
    (tail : ∀ (t : Array Value) (w : World), t.size = t0.size → (∀ k, (∀ j, j < n → D j ≠ k) → t[k]? = t0[k]?) → (∀ j, j < n → A j = none → ∃ x, t[D j]? = some x ∧ V j x) →
      (∀ j, j < n → ∀ sz, A j = some sz → ∃ g, t[D j]? = some (.pointer (some ⟨g, 0, none⟩)) ∧ B ≤ g ∧ ∃ ty cs, w.heap[g]? = some (.cells cs ty (0, 0)) ∧ cs.size = sz) →
      (∀ i j, i < n → j < n → i ≠ j → (A i).isSome = true → (A j).isSome = true → t[D i]? ≠ t[D j]?) → S w → wpList P l.toArray Q (l.drop n) ⟨t, df⟩ w) :
    (Code.region id l.toArray true).wp P Q ⟨t0, df⟩ w :=
  wp_core_most n D A V S B 0 (byInv_region hm hB) (fun j hj => absurd hj (Nat.not_lt_zero j)) hD hDs h0 hSB hSb (fun i o _ hi => hval i o hi) (fun i o sz _ hi => hall i o sz hi) tail

theorem wp_list_most {Q : Exit → Act → World → Prop} {w : World} {l : List Oper} {t0 : Array Value} {df : List Deferred} (n : Nat) (D : Nat → Nat) (A : Nat → Option Nat) (V : Nat → Value → Prop) (S : World → Prop) (B : Nat)
    (hB : (backB l.toArray && decide (n ≤ l.length)) = true) (hD : ∀ i j, i < n → j < n → j ≠ i → D j ≠ D i) (hDs : ∀ i, i < n → D i < t0.size) (h0 : S w) (hSB : ∀ w, S w → B ≤ w.heap.size)
    (hSb : ∀ w w', S w → Below w.heap.size w w' → S w')
    (hval : ∀ i o, i < n → l[i]? = some o → A i = none → o.dst = some (D i) ∧ ∀ (a : Act) (w : World), S w → (∀ k, (∀ j, j < n → D j ≠ k) → a.tmps[k]? = t0[k]?) →
      (∀ j, depB o j = true → j < n → A j = none → ∃ x, a.tmps[D j]? = some x ∧ V j x) → ∀ K : Act → World → Prop, (∀ x w', V i x → Below w.heap.size w w' → K (a.put (some (D i)) x) w') →
        if Region.wanted o (yielded l.toArray a.tmps) = true then o.wp P a w K Q else K (a.put (some (D i)) undef) w)
    (hall : ∀ i o sz, i < n → l[i]? = some o → A i = some sz → o.dst = some (D i) ∧ o.guard = none ∧ ∃ (t : TypeId) (cs : Array Value), cs.size = sz ∧ ∀ (a : Act) (w : World) (K : Act → World → Prop),
      K (a.put (some (D i)) (.pointer (some ⟨w.heap.size, 0, none⟩))) (w.alloc (.cells cs t)) → o.wp P a w K Q)
    (tail : ∀ (t : Array Value) (w : World), t.size = t0.size → (∀ k, (∀ j, j < n → D j ≠ k) → t[k]? = t0[k]?) → (∀ j, j < n → A j = none → ∃ x, t[D j]? = some x ∧ V j x) →
      (∀ j, j < n → ∀ sz, A j = some sz → ∃ g, t[D j]? = some (.pointer (some ⟨g, 0, none⟩)) ∧ B ≤ g ∧ ∃ ty cs, w.heap[g]? = some (.cells cs ty (0, 0)) ∧ cs.size = sz) →
      (∀ i j, i < n → j < n → i ≠ j → (A i).isSome = true → (A j).isSome = true → t[D i]? ≠ t[D j]?) → S w → wpList P l.toArray Q (l.drop n) ⟨t, df⟩ w) :
    wpList P l.toArray Q l ⟨t0, df⟩ w :=
  wp_core_most n D A V S B 0 (byInv_list 0 (Nat.zero_le _) hB) (fun j hj => absurd hj (Nat.not_lt_zero j)) hD hDs h0 hSB hSb (fun i o _ hi => hval i o hi) (fun i o sz _ hi => hall i o sz hi) tail

theorem wp_from_most {Q : Exit → Act → World → Prop} {w : World} {l : List Oper} {t0 : Array Value} {df : List Deferred} (n : Nat) (D : Nat → Nat) (A : Nat → Option Nat) (V : Nat → Value → Prop) (S : World → Prop) (B : Nat)
    (i0 : Nat) (hi0 : i0 ≤ n) (hB : (backB l.toArray && decide (n ≤ l.length)) = true) (hpre : ∀ j, j < i0 → j < n → A j = none ∧ ∃ x, t0[D j]? = some x ∧ V j x) (hD : ∀ i j, i < n → j < n → j ≠ i → D j ≠ D i) (hDs : ∀ i, i < n → D i < t0.size) (h0 : S w) (hSB : ∀ w, S w → B ≤ w.heap.size)
    (hSb : ∀ w w', S w → Below w.heap.size w w' → S w')
    (hval : ∀ i o, i0 ≤ i → i < n → l[i]? = some o → A i = none → o.dst = some (D i) ∧ ∀ (a : Act) (w : World), S w → (∀ k, (∀ j, j < n → D j ≠ k) → a.tmps[k]? = t0[k]?) →
      (∀ j, depB o j = true → j < n → A j = none → ∃ x, a.tmps[D j]? = some x ∧ V j x) → ∀ K : Act → World → Prop, (∀ x w', V i x → Below w.heap.size w w' → K (a.put (some (D i)) x) w') →
        if Region.wanted o (yielded l.toArray a.tmps) = true then o.wp P a w K Q else K (a.put (some (D i)) undef) w)
    (hall : ∀ i o sz, i0 ≤ i → i < n → l[i]? = some o → A i = some sz → o.dst = some (D i) ∧ o.guard = none ∧ ∃ (t : TypeId) (cs : Array Value), cs.size = sz ∧ ∀ (a : Act) (w : World) (K : Act → World → Prop),
      K (a.put (some (D i)) (.pointer (some ⟨w.heap.size, 0, none⟩))) (w.alloc (.cells cs t)) → o.wp P a w K Q)
    (tail : ∀ (t : Array Value) (w : World), t.size = t0.size → (∀ k, (∀ j, j < n → D j ≠ k) → t[k]? = t0[k]?) → (∀ j, j < n → A j = none → ∃ x, t[D j]? = some x ∧ V j x) →
      (∀ j, j < n → ∀ sz, A j = some sz → ∃ g, t[D j]? = some (.pointer (some ⟨g, 0, none⟩)) ∧ B ≤ g ∧ ∃ ty cs, w.heap[g]? = some (.cells cs ty (0, 0)) ∧ cs.size = sz) →
      (∀ i j, i < n → j < n → i ≠ j → (A i).isSome = true → (A j).isSome = true → t[D i]? ≠ t[D j]?) → S w → wpList P l.toArray Q (l.drop n) ⟨t, df⟩ w) :
    wpList P l.toArray Q (l.drop i0) ⟨t0, df⟩ w :=
  wp_core_most n D A V S B i0 (byInv_list i0 hi0 hB) hpre hD hDs h0 hSB hSb hval hall tail

/-- A frame is the old one with the slots filled. -/
theorem frame_fill {t t0 : Array Value} (n : Nat) (D : Nat → Nat) (hs : t.size = t0.size) (hold : ∀ k, (∀ j, j < n → D j ≠ k) → t[k]? = t0[k]?) (hD : ∀ i j, i < n → j < n → j ≠ i → D j ≠ D i) (hDs : ∀ i, i < n → D i < t0.size) :
    t = fillA D (fun _ => true) (fun j => t.getD (D j) undef) n t0 := by
  apply Array.ext_getElem?
  intro k
  by_cases h : ∃ j, j < n ∧ D j = k
  · obtain ⟨j, hj, rfl⟩ := h
    rw [fillA_get D _ _ j n t0 hj rfl (hDs j hj) (fun i hi hne => hD j i hj hi hne), Array.getD_eq_getD_getElem?]
    have : D j < t.size := by rw [hs]; exact hDs j hj
    simp [this]
  · have h' : ∀ j, j < n → D j ≠ k := fun j hj he => h ⟨j, hj, he⟩
    rw [fillA_other D _ _ k n t0 h', hold k h']

/-- A variable without a row, at the end of a region. -/
theorem tl_assign {ops : Array Oper} {rest : List Oper} {o : Oper} {Q : Exit → Act → World → Prop} {t : Array Value} {df : List Deferred} {w : World} (hgd : o.guard = none) (x : Operand) (ho : o.op = .assign x) (d : Nat) (hd : o.dst = some d) (hds : d < t.size) (u : Value) (hx : Act.eval ⟨t, df⟩ x = u)
    (h : ∀ t', t'.size = t.size → t'[d]? = some u → (∀ k, k ≠ d → t'[k]? = t[k]?) → wpList P ops Q rest ⟨t', df⟩ w) : wpList P ops Q (o :: rest) ⟨t, df⟩ w := by
  refine wpList_step fun K hK => if_always hgd ?_
  refine wp_val u (by unfold execOp; rw [ho]; subst hx; rfl) (hK _ _ ?_)
  rw [hd]
  exact h (t.setIfInBounds d u) (by simp) (by simp [hds]) (fun k hk => by rw [Array.getElem?_setIfInBounds, if_neg (fun e => hk e.symm)])

/-- A list of operations that a walk is to leave alone. -/
def Held (p : Prop) : Prop := p
theorem held_load {ops : Array Oper} {rest : List Oper} {o : Oper} {Q : Exit → Act → World → Prop} {a : Act} {w : World} (ty : TypeId) (x : Operand) (_ : o.op = .load ty x) (h : Held (wpList P ops Q (o :: rest) a w)) : wpList P ops Q (o :: rest) a w := h
theorem held_call {ops : Array Oper} {rest : List Oper} {o : Oper} {Q : Exit → Act → World → Prop} {a : Act} {w : World} (c : Call) (_ : o.op = .call c) (h : Held (wpList P ops Q (o :: rest) a w)) : wpList P ops Q (o :: rest) a w := h
theorem hide_held {ops : Array Oper} {rest : List Oper} {Q : Exit → Act → World → Prop} {t : Array Value} {df : List Deferred} {w : World} (h : ∀ t0, t0 = t → wpList P ops Q rest ⟨t0, df⟩ w) : Held (wpList P ops Q rest ⟨t, df⟩ w) := h _ rfl

theorem hide_list {ops : Array Oper} {rest : List Oper} {Q : Exit → Act → World → Prop} {t : Array Value} {df : List Deferred} {w : World} (h : ∀ t0, t0 = t → wpList P ops Q rest ⟨t0, df⟩ w) : wpList P ops Q rest ⟨t, df⟩ w := h _ rfl

theorem hide_frame {c : Code} {Q : Exit → Act → World → Prop} {t : Array Value} {df : List Deferred} {w : World} (h : ∀ t0, t0 = t → c.wp P Q ⟨t0, df⟩ w) : c.wp P Q ⟨t, df⟩ w := h _ rfl

/-- A frame, slot by slot. -/
theorem wash {t : Array Value} {n : Nat} (h : t.size = n) : ∃ f : Nat → Value, t = ((List.range n).map f).toArray ∧ ∀ k x, t[k]? = some x → f k = x := by
  refine ⟨fun k => t.getD k undef, ?_, fun k x hx => by simp [Array.getD_eq_getD_getElem?, hx]⟩
  apply Array.ext
  · simp [h]
  · intro i h1 h2
    simp [Array.getD_eq_getD_getElem?, h1]

section
variable {o : Oper} {a : Act} {w : World} {Q : Exit → Act → World → Prop} {V : Value → Prop} {d : Nat} {K : Act → World → Prop}
theorem op_fn1 (f : FuncId) (x : Operand) (tys : Array TypeId) (u : Value)
    (ho : o.op = .call { callee := .value (.func f), args := #[x], argTypes := tys }) (hd : o.dst = some d) (hx : a.eval x = u)
    (hf : ∀ (args : Array Value) (w : World), (callFunc f args).run P w = .ok (.enter f args) w) (h : Calls P f #[u] w (Gives V w))
    (hK : ∀ x w', V x → Below w.heap.size w w' → K (a.put (some d) x) w') : o.wp P a w K Q :=
  wp_fn1 f x tys u ho hx hf (h.mono fun e w' ⟨r, h1, h2, h3⟩ => ⟨r, h1, by rw [hd]; exact hK r w' h2 h3⟩)
theorem op_fn2 (f : FuncId) (x y : Operand) (tys : Array TypeId) (u v : Value)
    (ho : o.op = .call { callee := .value (.func f), args := #[x, y], argTypes := tys }) (hd : o.dst = some d) (hx : a.eval x = u) (hy : a.eval y = v)
    (hf : ∀ (args : Array Value) (w : World), (callFunc f args).run P w = .ok (.enter f args) w) (h : Calls P f #[u, v] w (Gives V w))
    (hK : ∀ x w', V x → Below w.heap.size w w' → K (a.put (some d) x) w') : o.wp P a w K Q :=
  wp_fn2 f x y tys u v ho hx hy hf (h.mono fun e w' ⟨r, h1, h2, h3⟩ => ⟨r, h1, by rw [hd]; exact hK r w' h2 h3⟩)
theorem op_fn3 (f : FuncId) (x y z : Operand) (tys : Array TypeId) (u v s : Value)
    (ho : o.op = .call { callee := .value (.func f), args := #[x, y, z], argTypes := tys }) (hd : o.dst = some d) (hx : a.eval x = u) (hy : a.eval y = v) (hz : a.eval z = s)
    (hf : ∀ (args : Array Value) (w : World), (callFunc f args).run P w = .ok (.enter f args) w) (h : Calls P f #[u, v, s] w (Gives V w))
    (hK : ∀ x w', V x → Below w.heap.size w w' → K (a.put (some d) x) w') : o.wp P a w K Q := by
  subst hx; subst hy; subst hz
  have hrun : (execOp a.eval o).run P w = .ok (.enter f #[a.eval x, a.eval y, a.eval z]) w := by
    unfold execOp
    rw [ho]
    have h0 := hf #[a.eval x, a.eval y, a.eval z] w
    have e : a.eval (Operand.func f) = Value.func (.func f) #[] #[] := rfl
    generalize a.eval = ρ at *
    simp [resolve, Deferred.ofValue, invoke, e, h0]
  unfold Oper.wp
  rw [hrun, Oper.upon_enter]
  exact h.mono fun e w' ⟨r, h1, h2, h3⟩ => by subst h1; rw [hd]; exact hK r w' h2 h3
theorem op_fn0 (f : FuncId) (tys : Array TypeId)
    (ho : o.op = .call { callee := .value (.func f), args := #[], argTypes := tys }) (hd : o.dst = some d)
    (hf : ∀ (args : Array Value) (w : World), (callFunc f args).run P w = .ok (.enter f args) w) (h : Calls P f #[] w (Gives V w))
    (hK : ∀ x w', V x → Below w.heap.size w w' → K (a.put (some d) x) w') : o.wp P a w K Q :=
  wp_fn0 f tys ho hf (h.mono fun e w' ⟨r, h1, h2, h3⟩ => ⟨r, h1, by rw [hd]; exact hK r w' h2 h3⟩)
theorem op_ld (ty : TypeId) (x : Operand) (ho : o.op = .load ty x) (hd : o.dst = some d)
    (g : Nat) (hx : a.eval x = .pointer (some ⟨g, 0, none⟩)) (cs : Array Value) (t : TypeId) (hg : w.heap[g]? = some (.cells cs t (0, 0))) (n : Nat) (hT : RowT P ty n) (hn : cs.size = n) (hV : V (.agg cs))
    (hK : ∀ x w', V x → Below w.heap.size w w' → K (a.put (some d) x) w') : o.wp P a w K Q := by
  obtain ⟨d', h1, h2, h3⟩ := hT
  subst hn
  exact wp_load_row ty x ho g hx t cs (0, 0) d' hg h1 (by cases d' <;> simp_all) h3 (by rw [hd]; exact hK _ _ hV (Below.refl _ _))
theorem op_move (x : Operand) (u : Value) (ho : o.op = .move x) (hd : o.dst = some d) (hx : a.eval x = u) (hV : V u)
    (hK : ∀ x w', V x → Below w.heap.size w w' → K (a.put (some d) x) w') : o.wp P a w K Q :=
  wp_move x u ho hx (by rw [hd]; exact hK _ _ hV (Below.refl _ _))
theorem op_assign (x : Operand) (u : Value) (ho : o.op = .assign x) (hd : o.dst = some d) (hx : a.eval x = u) (hV : V u)
    (hK : ∀ x w', V x → Below w.heap.size w w' → K (a.put (some d) x) w') : o.wp P a w K Q :=
  wp_val u (by unfold execOp; rw [ho]; subst hx; rfl) (by rw [hd]; exact hK _ _ hV (Below.refl _ _))
theorem op_pick (c x y : Operand) (b : Bool) (u : Value) (ho : o.op = .pick c x y) (hd : o.dst = some d) (hc : a.eval c = .bool b) (hx : (if b then a.eval x else a.eval y) = u) (hV : V u)
    (hK : ∀ x w', V x → Below w.heap.size w w' → K (a.put (some d) x) w') : o.wp P a w K Q :=
  wp_pick c x y b u ho hc hx (by rw [hd]; exact hK _ _ hV (Below.refl _ _))
theorem op_val (u : Value) (hd : o.dst = some d) (hrun : (execOp a.eval o).run P w = .ok (.value u) w) (hV : V u)
    (hK : ∀ x w', V x → Below w.heap.size w w' → K (a.put (some d) x) w') : o.wp P a w K Q :=
  wp_val u hrun (by rw [hd]; exact hK _ _ hV (Below.refl _ _))
theorem op_bin (bo : BinOp) (ty ty' : TypeId) (x y : Operand) (u v r : Value) (ho : o.op = .binOp bo ty x y ty') (hd : o.dst = some d) (hx : a.eval x = u) (hy : a.eval y = v)
    (hrun : ∀ w, (do eqGuard bo ty x y u v; binOp bo ty u v : Sem Value).run P w = .ok r w) (hV : V r)
    (hK : ∀ x w', V x → Below w.heap.size w w' → K (a.put (some d) x) w') : o.wp P a w K Q := by
  refine op_val r hd ?_ hV hK
  subst hx; subst hy
  unfold execOp; rw [ho]
  show ((do let z ← (do eqGuard bo ty x y (a.eval x) (a.eval y); binOp bo ty (a.eval x) (a.eval y)); pure (Next.value z)) : Sem Next).run P w = _
  rw [Sem.run_bind, hrun w]
  rfl
theorem op_un (uo : UnOp) (ty : TypeId) (x : Operand) (u r : Value) (ho : o.op = .unOp uo ty x) (hd : o.dst = some d) (hx : a.eval x = u)
    (hrun : ∀ w, (Op.unary uo u).run P w = .ok r w) (hV : V r)
    (hK : ∀ x w', V x → Below w.heap.size w w' → K (a.put (some d) x) w') : o.wp P a w K Q := by
  refine op_val r hd ?_ hV hK
  subst hx
  unfold execOp; rw [ho]
  show ((do let z ← Op.unary uo (a.eval x); pure (Next.value z)) : Sem Next).run P w = _
  rw [Sem.run_bind, hrun w]
  rfl
end
end Go.Proofs.YtemkpihfenokmaaDoor
