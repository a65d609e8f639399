/- A drawn region whose first store may come up beside a read: the store is met once too. Said over any program. -/
import Derived.Test.YtemkpihfenokmaaDoorOps3
namespace Go.Proofs.YtemkpihfenokmaaDoor
open Go.RowKit
variable {P : Program}

/-- What holds while the head runs, the store N of j's value into p's row in it. -/
def HS1 (N : Nat) (p j : Nat) (D : Nat → Nat) (A : Nat → Option Nat) (V : Nat → Value → Prop) (S : World → Prop) (B : Nat) (t0 : Array Value) (df : List Deferred) (f : Nat → Bool) (a : Act) (w : World) : Prop :=
  ∃ v : Nat → Value, a = ⟨fillA D f v N t0, df⟩ ∧ S w ∧ (∀ i, i < N → f i = true → A i = none → V i (v i)) ∧ (∀ i, i < N → f i = true → ∀ sz, A i = some sz → OwnRow B sz w (v i)) ∧
    (∀ i j, i < N → j < N → i ≠ j → f i = true → f j = true → (A i).isSome = true → (A j).isSome = true → v i ≠ v j) ∧
    (f N = true → f p = true ∧ f j = true ∧ ∃ g t cs, v p = .pointer (some ⟨g, 0, none⟩) ∧ v j = .agg cs ∧ w.heap[g]? = some (.cells cs t (0, 0)))

theorem wp_region_st1 {id : Nat} {Q : Exit → Act → World → Prop} {w : World} {l : List Oper} {t0 : Array Value} {df : List Deferred} (N : Nat) (p j : Nat) (D : Nat → Nat) (A : Nat → Option Nat) (V : Nat → Value → Prop) (S : World → Prop) (B sz : Nat) (ty : TypeId)
    (hm : P.follows .mixedOrders = true) (hB : headB l.toArray (N + 1) = true) (hD : ∀ i j, i < N → j < N → j ≠ i → D j ≠ D i) (hDs : ∀ i, i < N → D i < t0.size) (h0 : S w.drew) (hSB : ∀ w, S w → B ≤ w.heap.size)
    (hSb : ∀ w w', S w → Below w.heap.size w w' → S w') (hSr : ∀ w g cs, S w → B ≤ g → S (w.setRow g cs))
    (hp : p < N) (hj : j < N) (hAp : A p = some sz) (hAj : A j = none) (hT : RowT P ty sz) (hVj : ∀ x, V j x → ∃ cs, x = .agg cs ∧ cs.size = sz ∧ cs.all (·.oneCell') = true)
    (hst : ∀ o, l[N]? = some o → o.dst = none ∧ o.guard = none ∧ o.op = .store ty (.tmp (D p)) (.tmp (D j)) ∧ depB o p = true ∧ depB o j = true)
    (hval : ∀ i o, i < N → l[i]? = some o → A i = none → o.dst = some (D i) ∧ ∀ (a : Act) (w : World), S w → (∀ k, (∀ j, j < N → D j ≠ k) → a.tmps[k]? = t0[k]?) →
      (∀ j, depB o j = true → j < N → A j = none → ∃ x, a.tmps[D j]? = some x ∧ V j x) → ∀ K : Act → World → Prop, (∀ x w', V i x → Below w.heap.size w w' → K (a.put (some (D i)) x) w') →
        if Region.wanted o (yielded l.toArray a.tmps) = true then o.wp P a w K Q else K (a.put (some (D i)) undef) w)
    (hall : ∀ i o sz, i < N → l[i]? = some o → A i = some sz → o.dst = some (D i) ∧ o.guard = none ∧ ∃ (t : TypeId) (cs : Array Value), cs.size = sz ∧ ∀ (a : Act) (w : World) (K : Act → World → Prop),
      K (a.put (some (D i)) (.pointer (some ⟨w.heap.size, 0, none⟩))) (w.alloc (.cells cs t)) → o.wp P a w K Q)
    (tail : ∀ (t : Array Value) (w : World), t.size = t0.size → (∀ k, (∀ j, j < N → D j ≠ k) → t[k]? = t0[k]?) → (∀ j, j < N → A j = none → ∃ x, t[D j]? = some x ∧ V j x) →
      (∀ j, j < N → ∀ sz, A j = some sz → ∃ g, t[D j]? = some (.pointer (some ⟨g, 0, none⟩)) ∧ B ≤ g ∧ ∃ ty cs, w.heap[g]? = some (.cells cs ty (0, 0)) ∧ cs.size = sz) →
      (∀ i j, i < N → j < N → i ≠ j → (A i).isSome = true → (A j).isSome = true → t[D i]? ≠ t[D j]?) →
      (∃ g t' cs, t[D p]? = some (.pointer (some ⟨g, 0, none⟩)) ∧ t[D j]? = some (.agg cs) ∧ w.heap[g]? = some (.cells cs t' (0, 0))) → S w → wpList P l.toArray Q (l.drop (N + 1)) ⟨t, df⟩ w) :
    (Code.region id l.toArray true).wp P Q ⟨t0, df⟩ w := by
  refine wp_region_inv (N + 1) hm hB (HS1 N p j D A V S B t0 df) ⟨fun _ => undef, by rw [fillA_none], h0, (fun _ _ h => by cases h), (fun _ _ h => by cases h), (fun _ _ _ _ _ h => by cases h), (fun h => by cases h)⟩ ?_ ?_
  · rintro f a w i o hi ho hfi hdep ⟨v, rfl, hS, hV, hA, hne, hStd⟩ K hK
    have hgetv : ∀ q, q < N → f q = true → (fillA D f v N t0)[D q]? = some (v q) := fun q hq hf => fillA_get D f v q N t0 hq hf (hDs _ hq) (fun k hk hne => hD q k hq hk hne)
    by_cases hiN : i = N
    · subst hiN
      obtain ⟨o1, o2, o3, o4, o5⟩ := hst o ho
      have hfp : f p = true := by obtain ⟨e, he, hb, hn⟩ := depB_mem o4; rw [← hn]; exact hdep e he hb
      have hfj : f j = true := by obtain ⟨e, he, hb, hn⟩ := depB_mem o5; rw [← hn]; exact hdep e he hb
      obtain ⟨g, t', old, hvp, hBg, hrow, hold⟩ := hA p hp hfp sz hAp
      obtain ⟨cs, hvj, hcs, hone⟩ := hVj _ (hV j hj hfj hAj)
      rw [if_pos (by simp [Region.wanted, o2])]
      refine wp_st_row ty _ _ o3 g cs (eval_tmp (by rw [hgetv p hp hfp, hvp])) (eval_tmp (by rw [hgetv j hj hfj, hvj])) t' old hrow sz hT hcs hold hone ?_
      rw [o1]
      have hsame : fillA D (upF f i) v i t0 = fillA D f v i t0 := fillA_congr D _ _ v i t0 (fun q hq => by simp only [upF]; rw [if_neg (by omega)])
      refine hK _ _ ⟨v, by rw [hsame]; rfl, hSr _ _ _ hS hBg, ?_, ?_, ?_, fun _ => ⟨?_, ?_, g, t', cs, hvp, hvj, row_put hrow⟩⟩
      · intro q hq hf hn; exact hV q hq (by simpa [upF, Nat.ne_of_lt hq] using hf) hn
      · intro q hq hf s hs
        obtain ⟨g', t'', cs', e1, e2, e3, e4⟩ := hA q hq (by simpa [upF, Nat.ne_of_lt hq] using hf) s hs
        by_cases eg : g' = g
        · subst eg
          rw [hrow] at e3
          injection e3 with e3; injection e3 with e3a e3b
          exact ⟨g', t', cs, e1, e2, row_put hrow, by rw [hcs, ← hold, e3a, e4]⟩
        · exact ⟨g', t'', cs', e1, e2, row_put_other e3 eg, e4⟩
      · intro q r hq hr hqr h1 h2; exact hne q r hq hr hqr (by simpa [upF, Nat.ne_of_lt hq] using h1) (by simpa [upF, Nat.ne_of_lt hr] using h2)
      · simp [upF, hfp]
      · simp [upF, hfj]
    · have hi' : i < N := by omega
      have hput : ∀ x, (Act.put ⟨fillA D f v N t0, df⟩ (some (D i)) x) = ⟨fillA D (upF f i) (upV v i x) N t0, df⟩ := by
        intro x
        show (⟨(fillA D f v N t0).setIfInBounds (D i) x, df⟩ : Act) = _
        rw [fillA_put D f v i x N t0 hi' hfi (fun j hj hne => hD i j hi' hj hne)]
      have hup : ∀ q, q ≠ i → ∀ x, upF f i q = f q ∧ upV v i x q = v q := fun q hq x => ⟨by simp only [upF]; rw [if_neg hq], by simp only [upV]; rw [if_neg hq]⟩
      have hself : ∀ x, upV v i x i = x := fun x => by simp [upV]
      have hstk : ∀ x w', Below w.heap.size w w' → (upF f i N = true → upF f i p = true ∧ upF f i j = true ∧ ∃ g t cs, upV v i x p = .pointer (some ⟨g, 0, none⟩) ∧ upV v i x j = .agg cs ∧ w'.heap[g]? = some (.cells cs t (0, 0))) := by
        intro x w' hb hN
        rw [(hup N (by omega) x).1] at hN
        obtain ⟨h1, h2, g, t, cs, h3, h4, h5⟩ := hStd hN
        have np : p ≠ i := fun e => by subst e; rw [hfi] at h1; cases h1
        have nj : j ≠ i := fun e => by subst e; rw [hfi] at h2; cases h2
        exact ⟨by rw [(hup p np x).1]; exact h1, by rw [(hup j nj x).1]; exact h2, g, t, cs, by rw [(hup p np x).2]; exact h3, by rw [(hup j nj x).2]; exact h4, row_call hb h5⟩
      cases hAi : A i with
      | none =>
        obtain ⟨h1, h3⟩ := hval i o hi' ho hAi
        rw [h1]
        refine h3 _ w hS (fun k hk => fillA_other D f v k N t0 hk) (fun q hq hqn hAq => ?_) K (fun x w' hx hb => ?_)
        · obtain ⟨e, he, hbn, rfl⟩ := depB_mem hq
          have hfq := hdep e he hbn
          exact ⟨v e.on, hgetv _ hqn hfq, hV _ hqn hfq hAq⟩
        · rw [hput x]
          refine hK _ _ ⟨_, rfl, hSb _ _ hS hb, ?_, ?_, ?_, hstk x w' hb⟩
          · intro q hq hf hn
            by_cases e : q = i
            · subst e; rw [hself]; exact hx
            · obtain ⟨e1, e2⟩ := hup q e x
              rw [e1] at hf; rw [e2]; exact hV q hq hf hn
          · intro q hq hf s hs
            have e : q ≠ i := fun e => by subst e; rw [hAi] at hs; cases hs
            obtain ⟨e1, e2⟩ := hup q e x
            rw [e1] at hf; rw [e2]; exact (hA q hq hf s hs).keep hb
          · intro q k hq hk hqk hfq hfk hsq hsk
            have e : q ≠ i := fun e => by subst e; rw [hAi] at hsq; cases hsq
            have e' : k ≠ i := fun e => by subst e; rw [hAi] at hsk; cases hsk
            obtain ⟨e1, e2⟩ := hup q e x
            obtain ⟨e3, e4⟩ := hup k e' x
            rw [e1] at hfq; rw [e3] at hfk; rw [e2, e4]
            exact hne q k hq hk hqk hfq hfk hsq hsk
      | some s =>
        obtain ⟨h1, h2, t, cs, hcs, h3⟩ := hall i o s hi' ho hAi
        rw [if_pos (by simp [Region.wanted, h2])]
        refine h3 _ w K ?_
        rw [hput]
        have hBw := hSB w hS
        have hbel : Below w.heap.size w (w.alloc (.cells cs t)) := (Below.refl _ _).alloc (Nat.le_refl _) _
        have hold : ∀ q, q < N → f q = true → (A q).isSome = true → v q ≠ .pointer (some ⟨w.heap.size, 0, none⟩) := by
          intro q hq hf hs he
          obtain ⟨s', hs'⟩ := Option.isSome_iff_exists.1 hs
          obtain ⟨g, t', cs', hv, _, hr, _⟩ := hA q hq hf s' hs'
          rw [hv] at he
          have hg : g = w.heap.size := by injection he with he; injection he with he; injection he
          have := row_lt hr
          omega
        refine hK _ _ ⟨_, rfl, hSb _ _ hS hbel, ?_, ?_, ?_, hstk _ _ hbel⟩
        · intro q hq hf hn
          have e : q ≠ i := fun e => by subst e; rw [hAi] at hn; cases hn
          obtain ⟨e1, e2⟩ := hup q e (.pointer (some ⟨w.heap.size, 0, none⟩))
          rw [e1] at hf; rw [e2]; exact hV q hq hf hn
        · intro q hq hf s' hs
          by_cases e : q = i
          · subst e
            rw [hself]
            rw [hAi] at hs
            obtain rfl := Option.some.inj hs
            exact ⟨w.heap.size, t, cs, rfl, hBw, row_new, hcs⟩
          · obtain ⟨e1, e2⟩ := hup q e (.pointer (some ⟨w.heap.size, 0, none⟩))
            rw [e1] at hf; rw [e2]; exact (hA q hq hf s' hs).keep hbel
        · intro q k hq hk hqk hfq hfk hsq hsk
          by_cases eq : q = i
          · subst eq
            have ek : k ≠ q := fun h => hqk h.symm
            obtain ⟨e3, e4⟩ := hup k ek (.pointer (some ⟨w.heap.size, 0, none⟩))
            rw [e3] at hfk; rw [hself, e4]
            exact fun h => hold k hk hfk hsk h.symm
          · by_cases ek : k = i
            · subst ek
              obtain ⟨e1, e2⟩ := hup q eq (.pointer (some ⟨w.heap.size, 0, none⟩))
              rw [e1] at hfq; rw [hself, e2]
              exact hold q hq hfq hsq
            · obtain ⟨e1, e2⟩ := hup q eq (.pointer (some ⟨w.heap.size, 0, none⟩))
              obtain ⟨e3, e4⟩ := hup k ek (.pointer (some ⟨w.heap.size, 0, none⟩))
              rw [e1] at hfq; rw [e3] at hfk; rw [e2, e4]
              exact hne q k hq hk hqk hfq hfk hsq hsk
  · rintro f a w hfull ⟨v, rfl, hS, hV, hA, hne, hStd⟩
    have hf : ∀ q, q < N → f q = true := fun q hq => hfull q (by omega)
    rw [fillA_congr D f (fun _ => true) v N t0 hf]
    have hget : ∀ q, q < N → (fillA D (fun _ => true) v N t0)[D q]? = some (v q) := fun q hq => fillA_get D _ v q N t0 hq rfl (hDs _ hq) (fun k hk hne => hD _ k hq hk hne)
    obtain ⟨_, _, g, t', cs, s1, s2, s3⟩ := hStd (hfull N (by omega))
    refine tail _ w (fillA_size D _ v N t0) (fun k hk => fillA_other D _ v k N t0 hk) (fun q hq hAq => ⟨v q, hget q hq, hV q hq (hf q hq) hAq⟩) (fun q hq s hs => ?_) (fun q k hq hk hqk hsq hsk => ?_) ⟨g, t', cs, by rw [hget p hp, s1], by rw [hget j hj, s2], s3⟩ hS
    · obtain ⟨g, t, cs, h1, h2, h3, h4⟩ := hA q hq (hf q hq) s hs
      exact ⟨g, by rw [hget q hq, h1], h2, t, cs, h3, h4⟩
    · rw [hget q hq, hget k hk]
      exact fun h => hne q k hq hk hqk (hf q hq) (hf k hk) hsq hsk (Option.some.inj h)
end Go.Proofs.YtemkpihfenokmaaDoor
