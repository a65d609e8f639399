/- A region of calls, reads and new variables in whatever order, whose last operations are forced: each operation is met once, and says what its slot holds. Said over any program. -/
import Derived.Test.YtemkpihfenokmaaDoorInv
namespace Go.Proofs.YtemkpihfenokmaaDoor
open Go.RowKit
variable {P : Program}

/-- The slots D, filled so far (f), with the values v. -/
def fillA (D : Nat → Nat) (f : Nat → Bool) (v : Nat → Value) : Nat → Array Value → Array Value
  | 0, t => t
  | n + 1, t => if f n then (fillA D f v n t).setIfInBounds (D n) (v n) else fillA D f v n t

def upV (v : Nat → Value) (i : Nat) (x : Value) : Nat → Value := fun j => if j = i then x else v j

theorem fillA_size (D : Nat → Nat) (f : Nat → Bool) (v : Nat → Value) : ∀ (n : Nat) (t : Array Value), (fillA D f v n t).size = t.size
  | 0, _ => rfl
  | n + 1, t => by simp only [fillA]; split <;> simp [fillA_size D f v n t]

theorem fillA_same (D : Nat → Nat) (f : Nat → Bool) (v : Nat → Value) (i : Nat) (x : Value) : ∀ (n : Nat) (t : Array Value), n ≤ i → fillA D (upF f i) (upV v i x) n t = fillA D f v n t
  | 0, _, _ => rfl
  | n + 1, t, h => by
    have e1 : upF f i n = f n := by simp only [upF]; rw [if_neg (by omega)]
    have e2 : upV v i x n = v n := by simp only [upV]; rw [if_neg (by omega)]
    simp only [fillA]; rw [fillA_same D f v i x n t (by omega), e1, e2]

theorem set_swap (t : Array Value) (i j : Nat) (x y : Value) (h : i ≠ j) : (t.setIfInBounds i x).setIfInBounds j y = (t.setIfInBounds j y).setIfInBounds i x := by
  apply Array.ext_getElem?
  intro k
  simp only [Array.getElem?_setIfInBounds]
  by_cases e1 : j = k
  · subst e1
    by_cases e2 : i = j
    · exact absurd e2 h
    · simp [e2]
  · by_cases e2 : i = k
    · subst e2; simp [e1]
    · simp [e1, e2]

theorem fillA_put (D : Nat → Nat) (f : Nat → Bool) (v : Nat → Value) (i : Nat) (x : Value) : ∀ (n : Nat) (t : Array Value), i < n → f i = false → (∀ j, j < n → j ≠ i → D j ≠ D i) →
    (fillA D f v n t).setIfInBounds (D i) x = fillA D (upF f i) (upV v i x) n t
  | 0, _, h, _, _ => by omega
  | n + 1, t, h, hf, hD => by
    by_cases e : i = n
    · subst e
      have e1 : upF f i i = true := by simp [upF]
      have e2 : upV v i x i = x := by simp [upV]
      simp only [fillA]
      rw [hf, e1, e2, fillA_same D f v i x i t (Nat.le_refl _)]
      rfl
    · have e1 : upF f i n = f n := by simp only [upF]; rw [if_neg (by omega)]
      have e2 : upV v i x n = v n := by simp only [upV]; rw [if_neg (by omega)]
      have ih := fillA_put D f v i x n t (by omega) hf (fun j hj hne => hD j (by omega) hne)
      simp only [fillA]
      rw [e1, e2, ← ih]
      split
      · rw [set_swap _ _ _ _ _ (hD n (by omega) (fun h => e h.symm))]
      · rfl

theorem fillA_get (D : Nat → Nat) (f : Nat → Bool) (v : Nat → Value) (i : Nat) : ∀ (n : Nat) (t : Array Value), i < n → f i = true → D i < t.size → (∀ j, j < n → j ≠ i → D j ≠ D i) →
    (fillA D f v n t)[D i]? = some (v i)
  | 0, _, h, _, _, _ => by omega
  | n + 1, t, h, hf, hs, hD => by
    simp only [fillA]
    by_cases e : i = n
    · subst e
      rw [if_pos hf, Array.getElem?_setIfInBounds]
      simp [fillA_size, hs]
    · have ih := fillA_get D f v i n t (by omega) hf hs (fun j hj hne => hD j (by omega) hne)
      split
      · rw [Array.getElem?_setIfInBounds, if_neg (hD n (by omega) (fun h => e h.symm))]; exact ih
      · exact ih

theorem fillA_other (D : Nat → Nat) (f : Nat → Bool) (v : Nat → Value) (k : Nat) : ∀ (n : Nat) (t : Array Value), (∀ j, j < n → D j ≠ k) → (fillA D f v n t)[k]? = t[k]?
  | 0, _, _ => rfl
  | n + 1, t, h => by
    simp only [fillA]
    have ih := fillA_other D f v k n t (fun j hj => h j (by omega))
    split
    · rw [Array.getElem?_setIfInBounds, if_neg (h n (by omega))]; exact ih
    · exact ih

theorem fillA_congr (D : Nat → Nat) (f f' : Nat → Bool) (v : Nat → Value) : ∀ (n : Nat) (t : Array Value), (∀ j, j < n → f j = f' j) → fillA D f v n t = fillA D f' v n t
  | 0, _, _ => rfl
  | n + 1, t, h => by simp only [fillA]; rw [fillA_congr D f f' v n t (fun j hj => h j (by omega)), h n (by omega)]

theorem fillA_none (D : Nat → Nat) (v : Nat → Value) : ∀ (n : Nat) (t : Array Value), fillA D (fun _ => false) v n t = t
  | 0, _ => rfl
  | n + 1, t => by simp only [fillA]; exact fillA_none D v n t

/-- A pointer to a row of the call's own, of sz cells. -/
def OwnRow (B sz : Nat) (w : World) (v : Value) : Prop := ∃ g t cs, v = .pointer (some ⟨g, 0, none⟩) ∧ B ≤ g ∧ w.heap[g]? = some (.cells cs t (0, 0)) ∧ cs.size = sz

theorem OwnRow.keep {B sz : Nat} {w w' : World} {v : Value} (h : OwnRow B sz w v) (hb : Below w.heap.size w w') : OwnRow B sz w' v := by
  obtain ⟨g, t, cs, h1, h2, h3, h4⟩ := h
  exact ⟨g, t, cs, h1, h2, row_call hb h3, h4⟩

/-- What holds while the region's head runs. -/
def HI (n : Nat) (D : Nat → Nat) (A : Nat → Option Nat) (V : Nat → Value → Prop) (S : World → Prop) (B : Nat) (t0 : Array Value) (df : List Deferred) (f : Nat → Bool) (a : Act) (w : World) : Prop :=
  ∃ v : Nat → Value, a = ⟨fillA D f v n t0, df⟩ ∧ S w ∧ (∀ i, i < n → f i = true → A i = none → V i (v i)) ∧ (∀ i, i < n → f i = true → ∀ sz, A i = some sz → OwnRow B sz w (v i)) ∧
    (∀ i j, i < n → j < n → i ≠ j → f i = true → f j = true → (A i).isSome = true → (A j).isSome = true → v i ≠ v j)

theorem wp_region_head {id : Nat} {Q : Exit → Act → World → Prop} {w : World} {l : List Oper} {t0 : Array Value} {df : List Deferred} (n : Nat) (D : Nat → Nat) (A : Nat → Option Nat) (V : Nat → Value → Prop) (S : World → Prop) (B : Nat)
    (hm : P.follows .mixedOrders = true) (hB : headB l.toArray n = true) (hD : ∀ i j, i < n → j < n → j ≠ i → D j ≠ D i) (hDs : ∀ i, i < n → D i < t0.size) (h0 : S w.drew) (hSB : ∀ w, S w → B ≤ w.heap.size)
    (hSa : ∀ w cs t, S w → S (w.alloc (.cells cs t)))
    (hval : ∀ i o, i < n → l[i]? = some o → A i = none → o.dst = some (D i) ∧ o.guard = none ∧ ∀ (a : Act) (w : World), S w → (∀ k, (∀ j, j < n → D j ≠ k) → a.tmps[k]? = t0[k]?) →
      (∀ j, (∃ e ∈ o.after, Region.binds .any e = true ∧ e.on = j) → j < n → A j = none → ∃ x, a.tmps[D j]? = some x ∧ V j x) → ∀ K : Act → World → Prop, (∀ x w', V i x → S w' → Below w.heap.size w w' → K (a.put (some (D i)) x) w') → o.wp P a w K Q)
    (hall : ∀ i o sz, i < n → l[i]? = some o → A i = some sz → o.dst = some (D i) ∧ o.guard = none ∧ ∃ (t : TypeId) (cs : Array Value), cs.size = sz ∧ ∀ (a : Act) (w : World) (K : Act → World → Prop),
      K (a.put (some (D i)) (.pointer (some ⟨w.heap.size, 0, none⟩))) (w.alloc (.cells cs t)) → o.wp P a w K Q)
    (tail : ∀ (v : Nat → Value) (w : World), S w → (∀ i, i < n → A i = none → V i (v i)) → (∀ i, i < n → ∀ sz, A i = some sz → OwnRow B sz w (v i)) →
      (∀ i j, i < n → j < n → i ≠ j → (A i).isSome = true → (A j).isSome = true → v i ≠ v j) → wpList P l.toArray Q (l.drop n) ⟨fillA D (fun _ => true) v n t0, df⟩ w) :
    (Code.region id l.toArray true).wp P Q ⟨t0, df⟩ w := by
  refine wp_region_inv n hm hB (HI n D A V S B t0 df) ⟨fun _ => undef, by rw [fillA_none], h0, (fun _ _ h => by cases h), (fun _ _ h => by cases h), (fun _ _ _ _ _ h => by cases h)⟩ ?_ ?_
  · rintro f a w i o hi ho hfi hdep ⟨v, rfl, hS, hV, hA, hne⟩ K hK
    have hput : ∀ x, (Act.put ⟨fillA D f v n t0, df⟩ (some (D i)) x) = ⟨fillA D (upF f i) (upV v i x) n t0, df⟩ := by
      intro x
      show (⟨(fillA D f v n t0).setIfInBounds (D i) x, df⟩ : Act) = _
      rw [fillA_put D f v i x n t0 hi hfi (fun j hj hne => hD i j hi hj hne)]
    have hup : ∀ j, j ≠ i → ∀ x, upF f i j = f j ∧ upV v i x j = v j := fun j hj x => ⟨by simp only [upF]; rw [if_neg hj], by simp only [upV]; rw [if_neg hj]⟩
    have hself : ∀ x, upV v i x i = x := fun x => by simp [upV]
    cases hAi : A i with
    | none =>
      obtain ⟨h1, h2, h3⟩ := hval i o hi ho hAi
      have hw : Region.wanted o (yielded l.toArray (fillA D f v n t0)) = true := by simp [Region.wanted, h2]
      rw [if_pos hw]
      refine h3 _ w hS (fun k hk => fillA_other D f v k n t0 hk) (fun j hj hjn hAj => ?_) K (fun x w' hx hS' hb => ?_)
      · obtain ⟨e, he, hbn, rfl⟩ := hj
        have hfj := hdep e he hbn
        exact ⟨v e.on, fillA_get D f v e.on n t0 hjn hfj (hDs _ hjn) (fun k hk hne => hD _ k hjn hk hne), hV _ hjn hfj hAj⟩
      · rw [hput x]
        refine hK _ _ ⟨_, rfl, hS', ?_, ?_, ?_⟩
        · intro j hj hf hn
          by_cases e : j = i
          · subst e; rw [hself]; exact hx
          · obtain ⟨e1, e2⟩ := hup j e x
            rw [e1] at hf; rw [e2]; exact hV j hj hf hn
        · intro j hj hf sz hs
          have e : j ≠ i := fun e => by subst e; rw [hAi] at hs; cases hs
          obtain ⟨e1, e2⟩ := hup j e x
          rw [e1] at hf; rw [e2]; exact (hA j hj hf sz hs).keep hb
        · intro j k hj hk hjk hfj hfk hsj hsk
          have e : j ≠ i := fun e => by subst e; rw [hAi] at hsj; cases hsj
          have e' : k ≠ i := fun e => by subst e; rw [hAi] at hsk; cases hsk
          obtain ⟨e1, e2⟩ := hup j e x
          obtain ⟨e3, e4⟩ := hup k e' x
          rw [e1] at hfj; rw [e3] at hfk; rw [e2, e4]
          exact hne j k hj hk hjk hfj hfk hsj hsk
    | some sz =>
      obtain ⟨h1, h2, t, cs, hcs, h3⟩ := hall i o sz hi ho hAi
      have hw : Region.wanted o (yielded l.toArray (fillA D f v n t0)) = true := by simp [Region.wanted, h2]
      rw [if_pos hw]
      refine h3 _ w K ?_
      rw [hput]
      have hBw := hSB w hS
      have hbel : Below w.heap.size w (w.alloc (.cells cs t)) := (Below.refl _ _).alloc (Nat.le_refl _) _
      have hold : ∀ j, j < n → f j = true → (A j).isSome = true → v j ≠ .pointer (some ⟨w.heap.size, 0, none⟩) := by
        intro j hj hf hs he
        obtain ⟨s, hs'⟩ := Option.isSome_iff_exists.1 hs
        obtain ⟨g, t', cs', hv, _, hr, _⟩ := hA j hj hf s hs'
        rw [hv] at he
        have hg : g = w.heap.size := by injection he with he; injection he with he; injection he
        have := row_lt hr
        omega
      refine hK _ _ ⟨_, rfl, hSa w cs t hS, ?_, ?_, ?_⟩
      · intro j hj hf hn
        have e : j ≠ i := fun e => by subst e; rw [hAi] at hn; cases hn
        obtain ⟨e1, e2⟩ := hup j e (.pointer (some ⟨w.heap.size, 0, none⟩))
        rw [e1] at hf; rw [e2]; exact hV j hj hf hn
      · intro j hj hf s hs
        by_cases e : j = i
        · subst e
          rw [hself]
          rw [hAi] at hs
          obtain rfl := Option.some.inj hs
          exact ⟨w.heap.size, t, cs, rfl, hBw, row_new, hcs⟩
        · obtain ⟨e1, e2⟩ := hup j e (.pointer (some ⟨w.heap.size, 0, none⟩))
          rw [e1] at hf; rw [e2]; exact (hA j hj hf s hs).keep hbel
      · intro j k hj hk hjk hfj hfk hsj hsk
        by_cases ej : j = i
        · subst ej
          have ek : k ≠ j := fun h => hjk h.symm
          obtain ⟨e3, e4⟩ := hup k ek (.pointer (some ⟨w.heap.size, 0, none⟩))
          rw [e3] at hfk; rw [hself, e4]
          exact fun h => hold k hk hfk hsk h.symm
        · by_cases ek : k = i
          · subst ek
            obtain ⟨e1, e2⟩ := hup j ej (.pointer (some ⟨w.heap.size, 0, none⟩))
            rw [e1] at hfj; rw [hself, e2]
            exact hold j hj hfj hsj
          · obtain ⟨e1, e2⟩ := hup j ej (.pointer (some ⟨w.heap.size, 0, none⟩))
            obtain ⟨e3, e4⟩ := hup k ek (.pointer (some ⟨w.heap.size, 0, none⟩))
            rw [e1] at hfj; rw [e3] at hfk; rw [e2, e4]
            exact hne j k hj hk hjk hfj hfk hsj hsk
  · rintro f a w hfull ⟨v, rfl, hS, hV, hA, hne⟩
    rw [fillA_congr D f (fun _ => true) v n t0 hfull]
    exact tail v w hS (fun i hi hn => hV i hi (hfull i hi) hn) (fun i hi sz hs => hA i hi (hfull i hi) sz hs) (fun i j hi hj hij hsi hsj => hne i j hi hj hij (hfull i hi) (hfull j hj) hsi hsj)
end Go.Proofs.YtemkpihfenokmaaDoor
