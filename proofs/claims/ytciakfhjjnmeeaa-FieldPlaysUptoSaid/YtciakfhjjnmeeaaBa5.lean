/- Texts of this proof's own, one behind the other: plain laws and walks of the packages field and ladder. No condition. -/
import Derived.Test.YtciakfhjjnmeeaaRows
import Derived.Test.YtciakfhjjnmeeaaBa0
import Derived.Test.YtciakfhjjnmeeaaBa1
import Derived.Test.YtciakfhjjnmeeaaBa2
import Derived.Test.YtciakfhjjnmeeaaBa3
import Derived.Test.YtciakfhjjnmeeaaBa4
import Derived.Conc.Holds
import Derived.Leaving
import Derived.Handed
import Derived.WalkKit
import Derived.ProofKit
import Derived.OpenShut
import Derived.ShutString
import Derived.ChangeOld
import Derived.Below
import Derived.Deep.QuietTactic
import Derived.BigQuiet
namespace Go.Proofs.Ytciakfhjjnmeeaa
open Go.RowKit Nt

section
variable {b w : World} {L : List (Nat × Nat × (Value → Prop))}
theorem Own.cell (h : Own b L w) {i g n : Nat} {V V' : Value → Prop} (hi : L[i]? = some (g, n, V)) (k : Nat) (v : Value) (hV : ∀ cs : Array Value, cs.size = n → V (.agg cs) → V' (.agg (cs.setIfInBounds k v))) : Own b (L.set i (g, n, V')) (w.setCell ⟨g, k, none⟩ v) := by
  obtain ⟨cs, t, h1, h2, h3⟩ := h.get hi
  have hm : (L.set i (g, n, V')).map (·.1) = L.map (·.1) := (h.put hi (V' := V') (cs.setIfInBounds k v) (by simpa using h2) (hV cs h2 h3)).2.1 |> fun _ => by
    rw [List.map_set]
    refine List.ext_getElem? fun j => ?_
    rw [List.getElem?_set]
    split
    · rename_i e
      subst e
      have : i < (L.map (·.1)).length := by rw [List.length_map]; exact (List.getElem?_eq_some_iff.1 hi).1
      simp only [this, if_true]
      rw [List.getElem?_map, hi]; rfl
    · rfl
  refine ⟨h.1.setCell (h.ge hi) _, by rw [hm]; exact h.2.1, fun r hr => ?_⟩
  obtain ⟨j, hj, hjr⟩ := List.getElem_of_mem hr
  rw [List.length_set] at hj
  by_cases e : i = j
  · subst e
    rw [List.getElem_set_self] at hjr
    subst hjr
    exact ⟨h.ge hi, _, t, row_set h1, by simpa using h2, hV cs h2 h3⟩
  · rw [List.getElem_set_ne e] at hjr
    subst hjr
    obtain ⟨q1, c, t', q2, q3, q4⟩ := h.2.2 _ (List.getElem_mem hj)
    refine ⟨q1, c, t', row_set_other q2 (fun e2 => e ?_), q3, q4⟩
    have hi' : i < L.length := (List.getElem?_eq_some_iff.1 hi).1
    have hg : L[i].1 = g := by rw [(List.getElem?_eq_some_iff.1 hi).2]
    have hnd := h.2.1
    have := List.getElem_inj (xs := L.map (·.1)) (i := j) (j := i) (h₀ := by simpa using hj) (h₁ := by simpa using hi') hnd
    exact (this.1 (by simpa [hg] using e2)).symm
/-- .. by value. -/
theorem Own.byte (h : Own b L w) {i g n : Nat} {l : List Int} (hi : L[i]? = some (g, n, (· = .agg (vals l)))) (k : Nat) (x : Int) : Own b (L.set i (g, n, (· = .agg (vals (l.set k x))))) (w.setCell ⟨g, k, none⟩ (.int .u8 x)) :=
  h.cell hi k _ fun cs _ hcs => by
    injection hcs with hcs
    subst hcs
    exact congrArg Value.agg (vals_set l k x)
theorem Own.bytes (h : Own b L w) {i g n : Nat} {l : List Int} (hi : L[i]? = some (g, n, (· = .agg (vals l)))) : ∃ t, w.heap[g]? = some (.cells (vals l) t (0, 0)) := by
  obtain ⟨cs, t, h1, _, h3⟩ := h.get hi
  injection h3 with h3
  subst h3
  exact ⟨t, h1⟩
end

theorem nth_set_self (l : List Int) (k : Nat) (y : Int) (h : k < l.length) : nth (l.set k y) k = y := by simp [nth, h]
theorem byt_set {l : List Int} (hb : Byt l) (k : Nat) (y : Int) (hy : 0 ≤ y ∧ y < 256) : Byt (l.set k y) := by
  intro x hx
  rcases List.mem_or_eq_of_mem_set hx with h' | rfl
  · exact hb x h'
  · exact hy

end Go.Proofs.Ytciakfhjjnmeeaa

namespace Go.Proofs.Ytciakfhjjnmeeaa
open Go.RowKit
variable {P : Program}

/-- What holds while the head runs, the stores N, N + 1, .. of values into rows in it. -/
def HSm (N m : Nat) (p j : Nat → Nat) (D : Nat → Nat) (A : Nat → Option Nat) (V : Nat → Value → Prop) (S : World → Prop) (B : Nat) (t0 : Array Value) (df : List Deferred) (f : Nat → Bool) (a : Act) (w : World) : Prop :=
  ∃ v : Nat → Value, a = ⟨fillA D f v N t0, df⟩ ∧ S w ∧ (∀ i, i < N → f i = true → A i = none → V i (v i)) ∧ (∀ i, i < N → f i = true → ∀ sz, A i = some sz → OwnRow B sz w (v i)) ∧
    (∀ i j, i < N → j < N → i ≠ j → f i = true → f j = true → (A i).isSome = true → (A j).isSome = true → v i ≠ v j) ∧
    (∀ s, s < m → f (N + s) = true → f (p s) = true ∧ f (j s) = true ∧ ∃ g t cs, v (p s) = .pointer (some ⟨g, 0, none⟩) ∧ v (j s) = .agg cs ∧ w.heap[g]? = some (.cells cs t (0, 0)))

theorem wp_region_sts {id : Nat} {Q : Exit → Act → World → Prop} {w : World} {l : List Oper} {t0 : Array Value} {df : List Deferred} (N m : Nat) (p j : Nat → Nat) (D : Nat → Nat) (A : Nat → Option Nat) (V : Nat → Value → Prop) (S : World → Prop) (B sz : Nat) (ty : TypeId)
    (hm : P.follows .mixedOrders = true) (hB : headB l.toArray (N + m) = true) (hD : ∀ i j, i < N → j < N → j ≠ i → D j ≠ D i) (hDs : ∀ i, i < N → D i < t0.size) (h0 : S w.drew) (hSB : ∀ w, S w → B ≤ w.heap.size)
    (hSb : ∀ w w', S w → Below w.heap.size w w' → S w') (hSr : ∀ w g cs, S w → B ≤ g → S (w.setRow g cs))
    (hp : ∀ s, s < m → p s < N ∧ j s < N ∧ A (p s) = some sz ∧ A (j s) = none ∧ (∀ x, V (j s) x → ∃ cs, x = .agg cs ∧ cs.size = sz ∧ cs.all (·.oneCell') = true)) (hpp : ∀ s s', s < m → s' < m → s ≠ s' → p s ≠ p s') (hT : RowT P ty sz)
    (hst : ∀ s o, s < m → l[N + s]? = some o → o.dst = none ∧ o.guard = none ∧ o.op = .store ty (.tmp (D (p s))) (.tmp (D (j s))) ∧ depB o (p s) = true ∧ depB o (j s) = true)
    (hval : ∀ i o, i < N → l[i]? = some o → A i = none → o.dst = some (D i) ∧ ∀ (a : Act) (w : World), S w → (∀ k, (∀ j, j < N → D j ≠ k) → a.tmps[k]? = t0[k]?) →
      (∀ j, depB o j = true → j < N → A j = none → ∃ x, a.tmps[D j]? = some x ∧ V j x) → ∀ K : Act → World → Prop, (∀ x w', V i x → Below w.heap.size w w' → K (a.put (some (D i)) x) w') →
        if Region.wanted o (yielded l.toArray a.tmps) = true then o.wp P a w K Q else K (a.put (some (D i)) undef) w)
    (hall : ∀ i o sz, i < N → l[i]? = some o → A i = some sz → o.dst = some (D i) ∧ o.guard = none ∧ ∃ (t : TypeId) (cs : Array Value), cs.size = sz ∧ ∀ (a : Act) (w : World) (K : Act → World → Prop),
      K (a.put (some (D i)) (.pointer (some ⟨w.heap.size, 0, none⟩))) (w.alloc (.cells cs t)) → o.wp P a w K Q)
    (tail : ∀ (t : Array Value) (w : World), t.size = t0.size → (∀ k, (∀ j, j < N → D j ≠ k) → t[k]? = t0[k]?) → (∀ j, j < N → A j = none → ∃ x, t[D j]? = some x ∧ V j x) →
      (∀ j, j < N → ∀ sz, A j = some sz → ∃ g, t[D j]? = some (.pointer (some ⟨g, 0, none⟩)) ∧ B ≤ g ∧ ∃ ty cs, w.heap[g]? = some (.cells cs ty (0, 0)) ∧ cs.size = sz) →
      (∀ i j, i < N → j < N → i ≠ j → (A i).isSome = true → (A j).isSome = true → t[D i]? ≠ t[D j]?) →
      (∀ s, s < m → ∃ g t' cs, t[D (p s)]? = some (.pointer (some ⟨g, 0, none⟩)) ∧ t[D (j s)]? = some (.agg cs) ∧ w.heap[g]? = some (.cells cs t' (0, 0))) → S w → wpList P l.toArray Q (l.drop (N + m)) ⟨t, df⟩ w) :
    (Code.region id l.toArray true).wp P Q ⟨t0, df⟩ w := by
  refine wp_region_inv (N + m) hm hB (HSm N m p j D A V S B t0 df) ⟨fun _ => undef, by rw [fillA_none], h0, (fun _ _ h => by cases h), (fun _ _ h => by cases h), (fun _ _ _ _ _ h => by cases h), (fun _ _ h => by cases h)⟩ ?_ ?_
  · rintro f a w i o hi ho hfi hdep ⟨v, rfl, hS, hV, hA, hne, hStd⟩ K hK
    have hgetv : ∀ q, q < N → f q = true → (fillA D f v N t0)[D q]? = some (v q) := fun q hq hf => fillA_get D f v q N t0 hq hf (hDs _ hq) (fun k hk hne => hD q k hq hk hne)
    by_cases hiN : N ≤ i
    · obtain ⟨s, rfl⟩ : ∃ s, i = N + s := ⟨i - N, by omega⟩
      have hsm : s < m := by omega
      obtain ⟨hps, hjs, hAp, hAj, hVj⟩ := hp s hsm
      obtain ⟨o1, o2, o3, o4, o5⟩ := hst s o hsm ho
      have hfp : f (p s) = true := by obtain ⟨e, he, hb, hn⟩ := depB_mem o4; rw [← hn]; exact hdep e he hb
      have hfj : f (j s) = true := by obtain ⟨e, he, hb, hn⟩ := depB_mem o5; rw [← hn]; exact hdep e he hb
      obtain ⟨g, t', old, hvp, hBg, hrow, hold⟩ := hA (p s) hps hfp sz hAp
      obtain ⟨cs, hvj, hcs, hone⟩ := hVj _ (hV (j s) hjs hfj hAj)
      rw [if_pos (by simp [Region.wanted, o2])]
      refine wp_st_row ty _ _ o3 g cs (eval_tmp (by rw [hgetv (p s) hps hfp, hvp])) (eval_tmp (by rw [hgetv (j s) hjs hfj, hvj])) t' old hrow sz hT hcs hold hone ?_
      rw [o1]
      have hsame : fillA D (upF f (N + s)) v N t0 = fillA D f v N t0 := fillA_congr D _ _ v N t0 (fun q hq => by simp only [upF]; rw [if_neg (by omega)])
      have hsm2 : ∀ q, q < N → upF f (N + s) q = f q := fun q hq => by simp only [upF]; rw [if_neg (by omega)]
      refine hK _ _ ⟨v, by rw [hsame]; rfl, hSr _ _ _ hS hBg, ?_, ?_, ?_, fun s' hs' hf' => ?_⟩
      · intro q hq hf hn; rw [hsm2 q hq] at hf; exact hV q hq hf hn
      · intro q hq hf s hs
        rw [hsm2 q hq] at hf
        obtain ⟨g', t'', cs', e1, e2, e3, e4⟩ := hA q hq hf s hs
        by_cases eg : g' = g
        · subst eg
          rw [hrow] at e3
          injection e3 with e3; injection e3 with e3a e3b
          exact ⟨g', t', cs, e1, e2, row_put hrow, by rw [hcs, ← hold, e3a, e4]⟩
        · exact ⟨g', t'', cs', e1, e2, row_put_other e3 eg, e4⟩
      · intro q r hq hr hqr h1 h2; rw [hsm2 q hq] at h1; rw [hsm2 r hr] at h2; exact hne q r hq hr hqr h1 h2
      · obtain ⟨hps', hjs', hAp', _, _⟩ := hp s' hs'
        by_cases es : s' = s
        · subst es
          exact ⟨by rw [hsm2 _ hps]; exact hfp, by rw [hsm2 _ hjs]; exact hfj, g, t', cs, hvp, hvj, row_put hrow⟩
        · have hf2 : f (N + s') = true := by simpa [upF, es] using hf'
          obtain ⟨q1, q2, g', t'', cs', q3, q4, q5⟩ := hStd s' hs' hf2
          refine ⟨by rw [hsm2 _ hps']; exact q1, by rw [hsm2 _ hjs']; exact q2, g', t'', cs', q3, q4, row_put_other q5 (fun eg => ?_)⟩
          have := hne (p s') (p s) hps' hps (hpp s' s hs' hsm es) q1 hfp (by rw [hAp']; rfl) (by rw [hAp]; rfl)
          exact this (by rw [q3, hvp, eg])
    · have hi' : i < N := by omega
      have hput : ∀ x, (Act.put ⟨fillA D f v N t0, df⟩ (some (D i)) x) = ⟨fillA D (upF f i) (upV v i x) N t0, df⟩ := by
        intro x
        show (⟨(fillA D f v N t0).setIfInBounds (D i) x, df⟩ : Act) = _
        rw [fillA_put D f v i x N t0 hi' hfi (fun j hj hne => hD i j hi' hj hne)]
      have hup : ∀ q, q ≠ i → ∀ x, upF f i q = f q ∧ upV v i x q = v q := fun q hq x => ⟨by simp only [upF]; rw [if_neg hq], by simp only [upV]; rw [if_neg hq]⟩
      have hself : ∀ x, upV v i x i = x := fun x => by simp [upV]
      have hstk : ∀ x w', Below w.heap.size w w' → (∀ s, s < m → upF f i (N + s) = true → upF f i (p s) = true ∧ upF f i (j s) = true ∧ ∃ g t cs, upV v i x (p s) = .pointer (some ⟨g, 0, none⟩) ∧ upV v i x (j s) = .agg cs ∧ w'.heap[g]? = some (.cells cs t (0, 0))) := by
        intro x w' hb s hs hN
        rw [(hup (N + s) (by omega) x).1] at hN
        obtain ⟨h1, h2, g, t, cs, h3, h4, h5⟩ := hStd s hs hN
        have np : p s ≠ i := fun e => by rw [e, hfi] at h1; cases h1
        have nj : j s ≠ i := fun e => by rw [e, hfi] at h2; cases h2
        exact ⟨by rw [(hup (p s) np x).1]; exact h1, by rw [(hup (j s) nj x).1]; exact h2, g, t, cs, by rw [(hup (p s) np x).2]; exact h3, by rw [(hup (j s) nj x).2]; exact h4, row_call hb h5⟩
      cases hAi : A i with
      | none =>
        obtain ⟨h1, h3⟩ := hval i o hi' ho hAi
        rw [h1]
        refine h3 _ w hS (fun k hk => fillA_other D f v k N t0 hk) (fun q hq hqn hAq => ?_) K (fun x w' hx hb => ?_)
        · obtain ⟨e, he, hbn, rfl⟩ := depB_mem hq
          have hfq := hdep e he hbn
          exact ⟨v e.on, hgetv _ hqn hfq, hV _ hqn hfq hAq⟩
        · rw [hput x]
          refine hK _ _ ⟨_, rfl, hSb _ _ hS hb, ?_, ?_, ?_, hstk x w' hb⟩
          · intro q hq hf hn
            by_cases e : q = i
            · subst e; rw [hself]; exact hx
            · obtain ⟨e1, e2⟩ := hup q e x
              rw [e1] at hf; rw [e2]; exact hV q hq hf hn
          · intro q hq hf s hs
            have e : q ≠ i := fun e => by subst e; rw [hAi] at hs; cases hs
            obtain ⟨e1, e2⟩ := hup q e x
            rw [e1] at hf; rw [e2]; exact (hA q hq hf s hs).keep hb
          · intro q k hq hk hqk hfq hfk hsq hsk
            have e : q ≠ i := fun e => by subst e; rw [hAi] at hsq; cases hsq
            have e' : k ≠ i := fun e => by subst e; rw [hAi] at hsk; cases hsk
            obtain ⟨e1, e2⟩ := hup q e x
            obtain ⟨e3, e4⟩ := hup k e' x
            rw [e1] at hfq; rw [e3] at hfk; rw [e2, e4]
            exact hne q k hq hk hqk hfq hfk hsq hsk
      | some s =>
        obtain ⟨h1, h2, t, cs, hcs, h3⟩ := hall i o s hi' ho hAi
        rw [if_pos (by simp [Region.wanted, h2])]
        refine h3 _ w K ?_
        rw [hput]
        have hBw := hSB w hS
        have hbel : Below w.heap.size w (w.alloc (.cells cs t)) := (Below.refl _ _).alloc (Nat.le_refl _) _
        have hold : ∀ q, q < N → f q = true → (A q).isSome = true → v q ≠ .pointer (some ⟨w.heap.size, 0, none⟩) := by
          intro q hq hf hs he
          obtain ⟨s', hs'⟩ := Option.isSome_iff_exists.1 hs
          obtain ⟨g, t', cs', hv, _, hr, _⟩ := hA q hq hf s' hs'
          rw [hv] at he
          have hg : g = w.heap.size := by injection he with he; injection he with he; injection he
          have := row_lt hr
          omega
        refine hK _ _ ⟨_, rfl, hSb _ _ hS hbel, ?_, ?_, ?_, hstk _ _ hbel⟩
        · intro q hq hf hn
          have e : q ≠ i := fun e => by subst e; rw [hAi] at hn; cases hn
          obtain ⟨e1, e2⟩ := hup q e (.pointer (some ⟨w.heap.size, 0, none⟩))
          rw [e1] at hf; rw [e2]; exact hV q hq hf hn
        · intro q hq hf s' hs
          by_cases e : q = i
          · subst e
            rw [hself]
            rw [hAi] at hs
            obtain rfl := Option.some.inj hs
            exact ⟨w.heap.size, t, cs, rfl, hBw, row_new, hcs⟩
          · obtain ⟨e1, e2⟩ := hup q e (.pointer (some ⟨w.heap.size, 0, none⟩))
            rw [e1] at hf; rw [e2]; exact (hA q hq hf s' hs).keep hbel
        · intro q k hq hk hqk hfq hfk hsq hsk
          by_cases eq : q = i
          · subst eq
            have ek : k ≠ q := fun h => hqk h.symm
            obtain ⟨e3, e4⟩ := hup k ek (.pointer (some ⟨w.heap.size, 0, none⟩))
            rw [e3] at hfk; rw [hself, e4]
            exact fun h => hold k hk hfk hsk h.symm
          · by_cases ek : k = i
            · subst ek
              obtain ⟨e1, e2⟩ := hup q eq (.pointer (some ⟨w.heap.size, 0, none⟩))
              rw [e1] at hfq; rw [hself, e2]
              exact hold q hq hfq hsq
            · obtain ⟨e1, e2⟩ := hup q eq (.pointer (some ⟨w.heap.size, 0, none⟩))
              obtain ⟨e3, e4⟩ := hup k ek (.pointer (some ⟨w.heap.size, 0, none⟩))
              rw [e1] at hfq; rw [e3] at hfk; rw [e2, e4]
              exact hne q k hq hk hqk hfq hfk hsq hsk
  · rintro f a w hfull ⟨v, rfl, hS, hV, hA, hne, hStd⟩
    have hf : ∀ q, q < N → f q = true := fun q hq => hfull q (by omega)
    rw [fillA_congr D f (fun _ => true) v N t0 hf]
    have hget : ∀ q, q < N → (fillA D (fun _ => true) v N t0)[D q]? = some (v q) := fun q hq => fillA_get D _ v q N t0 hq rfl (hDs _ hq) (fun k hk hne => hD _ k hq hk hne)
    refine tail _ w (fillA_size D _ v N t0) (fun k hk => fillA_other D _ v k N t0 hk) (fun q hq hAq => ⟨v q, hget q hq, hV q hq (hf q hq) hAq⟩) (fun q hq s hs => ?_) (fun q k hq hk hqk hsq hsk => ?_) (fun s hs => by
      obtain ⟨hps, hjs, _⟩ := hp s hs
      obtain ⟨_, _, g, t', cs, s1, s2, s3⟩ := hStd s hs (hfull (N + s) (by omega))
      exact ⟨g, t', cs, by rw [hget _ hps, s1], by rw [hget _ hjs, s2], s3⟩) hS
    · obtain ⟨g, t, cs, h1, h2, h3, h4⟩ := hA q hq (hf q hq) s hs
      exact ⟨g, by rw [hget q hq, h1], h2, t, cs, h3, h4⟩
    · rw [hget q hq, hget k hk]
      exact fun h => hne q k hq hk hqk (hf q hq) (hf k hk) hsq hsk (Option.some.inj h)
end Go.Proofs.Ytciakfhjjnmeeaa

namespace Go.Proofs.Ytciakfhjjnmeeaa

theorem leaving_of_handed {a : Assume} {C : Checked} {os : Os} {f : FuncId} {r : Reach} {Pre : World → Array Value → Prop} {Post : World → Array Value → Value → World → Prop}
    (h : ReturnsInHanded a C os f r Pre Post) : ReturnsInLeavingWide a C os f r Pre Post := fun e => by
  obtain ⟨h1, h2, h3, h4, h5⟩ := h e
  refine ⟨h1, h2, h3, h4, fun w t i hf => ?_⟩
  obtain ⟨n, v, w', k1, k2, k3, k4, ⟨j, last, l1, l2, q, ho, eh⟩, k5⟩ := h5 w t i hf
  exact ⟨n, v, w', k1, k2, k3, k4, ⟨j, last, l1, l2, ho, onlyLeaving_of_quiet q, eh⟩, k5⟩
end Go.Proofs.Ytciakfhjjnmeeaa

namespace Go.Proofs.Ytciakfhjjnmeeaa
open Go.ChangeShapes Go.WideShapes Go.ChangeAt Go.RowKit

theorem own : ownKnob Try.prog.godebug = none := by kernel_rfl
theorem laidOut : laidOutB Try.prog = true := by kernel_rfl

theorem ints_of {k : IntKind} : ∀ (cs : List Value), (∀ c ∈ cs, ∃ n, c = .int k n ∧ (Lit.int k n).wf = true) → ∃ L : List Int, cs = L.map (Value.int k) ∧ L.length = cs.length ∧ ∀ n ∈ L, (Lit.int k n).wf = true
  | [], _ => ⟨[], rfl, rfl, fun n h => by cases h⟩
  | c :: r, h => by
    obtain ⟨n, rfl, hn⟩ := h c (by simp)
    obtain ⟨L, rfl, hl, hw⟩ := ints_of r (fun x hx => h x (by simp [hx]))
    refine ⟨n :: L, rfl, by simp, fun m hm => ?_⟩
    rw [List.mem_cons] at hm
    rcases hm with rfl | hm
    · exact hn
    · exact hw m hm

theorem open_row {H : Type} {enc : TypeId × Value → H} {P : Program} {W : World} {base : Nat} {spare : Nat → Bool} {held : Bool} {t e : TypeId} {n : Nat} {k : IntKind} {v : Value} {d : DataW H} {ps : List MemPlace}
    (ht : P.underlying t = some (.array n e)) (he : P.underlying e = some (.int k)) (hc : P.cellsOf t = n) (hce : P.cellsOf e = 1) (hn : 2 ≤ n) (h : DataW.Trod enc P W base spare held t v d ps) :
    ∃ L : List Int, v = .agg (valsK k L) ∧ L.length = n ∧ ∀ x ∈ L, (Lit.int k x).wf = true := by
  obtain ⟨fuel, hf⟩ := h
  obtain ⟨xs, m, rfl, hx, hl, hxl, hi⟩ := DataW.trod_array ht hf
  rw [hc] at hl
  obtain ⟨L, hL, hLl, hw⟩ := ints_of (k := k) v.cells.toList (fun c hcm => by
    obtain ⟨i, hi', rfl⟩ := List.getElem_of_mem hcm
    have h1 := hi i (by omega)
    rw [hce, Nat.mul_one] at h1
    have h2 : (v.cells.toList.drop i).take 1 = [v.cells.toList[i]] := by rw [List.drop_eq_getElem_cons hi']; rfl
    rw [h2, List.getElem?_eq_getElem (by omega)] at h1
    obtain ⟨q, hq, _, hqw⟩ := DataW.trod_int he h1
    exact ⟨q, by simpa using hq, hqw⟩)
  have hLn : L.length = n := hLl.trans hl
  refine ⟨L, ?_, hLn, hw⟩
  cases v with
  | agg cs =>
    show Value.agg cs = Value.agg (L.map (Value.int k)).toArray
    congr 1
    have h3 : cs.toList = L.map (Value.int k) := hL
    rw [← h3]
  | _ => exfalso; simp [Value.cells] at hl; omega

theorem byt_of_wf {L : List Int} (h : ∀ x ∈ L, (Lit.int .u8 x).wf = true) : Byt L := fun x hx => by have := bounds_u8 (h x hx); omega
end Go.Proofs.Ytciakfhjjnmeeaa

namespace Go.Proofs.Ytciakfhjjnmeeaa
open Go.RowKit Nt

/-- What carrying leaves: sixteen digits, and what counts 65536^16 times. -/
def CarOut (l : List Int) (w : World) (e : Ending) (w' : World) : Prop :=
  ∃ L c, e = .returned (.tuple #[.agg (valsK .i64 L), .int .i64 c]) ∧ Norm L ∧ 0 ≤ c ∧ dnum l = dnum L + 65536 ^ 16 * c ∧ Below w.heap.size w w'

theorem car_step {A : List Int} {l : List Int} {k : Nat} {c : Int} (hk : k < l.length) (hA : A.length = k) (h : dnum A + 65536 ^ k * c = dnum (l.take k)) :
    dnum (A ++ [(nth l k + c) % 65536]) + 65536 ^ (k + 1) * ((nth l k + c) / 65536) = dnum (l.take (k + 1)) := by
  rw [dnum_append, hA, dnum_take l k hk, ← h, Int.pow_succ]
  simp only [dnum]
  have e := Int.mul_ediv_add_emod (nth l k + c) 65536
  grind

set_option maxHeartbeats 1000000 in
set_option maxRecDepth 100000 in
theorem carried08_any (l : List Int) (w : World) (hl : l.length = 16) (hb : ∀ x ∈ l, 0 ≤ x ∧ x < 2251799813685248) :
    Calls Try.prog 90 #[.agg (valsK .i64 l)] w (CarOut l w) := by
  have HL := Lib.hid hl
  have HBD := Lib.hid hb
  clear hl hb
  go_enter Try.func90, Try.ntmps90
  go_wp2_with fail
  go_loopw [4, 5, 6] (fun s i _ wr => ∃ (k : Nat) (c : Int) (A : List Int), k ≤ 16 ∧ i = .int .i64 k ∧ s = .int .i64 c ∧ A.length = k ∧ (∀ x ∈ A, 0 ≤ x ∧ x < 65536) ∧ 0 ≤ c ∧ c ≤ 68719476736 ∧ dnum A + 65536 ^ k * c = dnum (l.take k) ∧ wr.heap[w.heap.size]? = some (.cells (valsK .i64 (A ++ l.drop k)) 100 (0, 0)) ∧ wr.heap[w.heap.size + 1]? = some (.cells (valsK .i64 z16) 100 (0, 0)) ∧ Below w.heap.size w wr) (fun _ i _ _ => 16 - (intOf i).toNat)
  case atStart => exact ⟨0, 0, [], by omega, rfl, rfl, rfl, (fun x hx => by cases hx), by omega, by omega, by simp [dnum], new2_0 .., new2_1 .., by go_grown⟩
  case round =>
    obtain ⟨k, c, A, hk, rfl, rfl, hA, hN, hc0, hc1, hd, Ra, Rb, Bk⟩ := hrel
    by_cases hlt : k < 16
    · have hx := HBD.out (nth l k) (by rw [nth_get (by rw [HL.out]; exact hlt)]; exact List.getElem_mem _)
      rw [drop_nth l k (by rw [HL.out]; exact hlt)] at Ra
      have ca := (row_cell Ra k).trans (valsK_get (by rw [List.length_append, hA]; simp))
      rw [pre_nth _ _ _ _ hA] at ca
      have fa := row_free Ra k
      have HD := Lib.hid (car_step (by rw [HL.out]; exact hlt) hA hd)
      have HS := Lib.hid (row_set (i := k) (v := .int .i64 ((nth l k + c) % 65536)) Ra)
      have HB := Lib.hid Rb
      have HA := Lib.hid hA
      have HN := Lib.hid hN
      clear Ra Rb hd hA hN
      go_wp2
      go_roundw
      case rel =>
        refine ⟨k + 1, (nth l k + c) / 65536, A ++ [(nth l k + c) % 65536], by omega, by go_num, rfl, by simp [HA.out], ?_, by omega, by omega, HD.out, ?_, row_set_other HB.out (by omega), by go_grown⟩
        · intro x hx'
          rw [List.mem_append] at hx'
          rcases hx' with h | h
          · exact HN.out x h
          · rw [List.mem_singleton] at h; subst h; omega
        · refine HS.out.trans ?_
          rw [valsK_set, pre_set _ _ _ _ _ HA.out]
      case measure => simp [intOf]; omega
    · obtain rfl : k = 16 := by omega
      have e16 : A ++ l.drop 16 = A := by rw [List.drop_of_length_le (by rw [HL.out]; omega)]; exact List.append_nil _
      rw [e16] at Ra
      rw [List.take_of_length_le (by rw [HL.out]; omega)] at hd
      have HD := Lib.hid hd
      have HA := Lib.hid hA
      clear hd hA
      go_wp2_with (first | (refine ld_row rfl 100 (.tmp 1) rfl _ (by rfl) _ _ Ra 16 tDig (by rw [valsK_size, HA.out]) ?_) | (refine st_row rfl 100 (.tmp 2) _ rfl _ _ (by rfl) (by rfl) _ _ Rb 16 tDig (by rw [valsK_size, HA.out]) (by rfl) (valsK_one _ _) ?_))
      refine ret_row_tmp rfl _ _ _ rfl (row_put Rb) 16 tDig (by rw [valsK_size, HA.out]) rfl ?_
      exact ⟨A, c, rfl, ⟨HA.out, hN⟩, hc0, HD.out.symm, below_setRow Bk (by omega) _⟩

theorem split_at (a : List Int) (m : Nat) (h : m < a.length) : dnum a = dnum (a.take m) + 65536 ^ m * (nth a m + 65536 * dnum (a.drop (m + 1))) := by
  have hl : (a.take m).length = m := by rw [List.length_take]; omega
  conv => lhs; rw [← List.take_append_drop m a, dnum_append, hl, drop_nth a m h]
  rfl

theorem ahead_at {a b : List Int} {m : Nat} (ha : Norm a) (hb : Norm b) (hm : m < 16) (hd : a.drop (m + 1) = b.drop (m + 1)) (hne : nth a m ≠ nth b m) :
    decide (nth a m < nth b m) = decide (dnum a < dnum b) := by
  have ea := split_at a m (by rw [ha.1]; exact hm)
  have eb := split_at b m (by rw [hb.1]; exact hm)
  have ba := dnum_bound (a.take m) (fun x hx => ha.2 x (List.mem_of_mem_take hx))
  have bb := dnum_bound (b.take m) (fun x hx => hb.2 x (List.mem_of_mem_take hx))
  have la : (a.take m).length = m := by rw [List.length_take, ha.1]; omega
  have lb : (b.take m).length = m := by rw [List.length_take, hb.1]; omega
  rw [la] at ba
  rw [lb] at bb
  rw [hd] at ea
  have hS : (0 : Int) < 65536 ^ m := Int.pow_pos (by omega)
  generalize (65536 : Int) ^ m = S at *
  generalize dnum (b.drop (m + 1)) = C at *
  apply decide_eq_decide.2
  rw [ea, eb, Int.mul_add, Int.mul_add]
  constructor
  · intro h
    have := Int.mul_le_mul_of_nonneg_left (show nth a m + 1 ≤ nth b m by omega) (Int.le_of_lt hS)
    rw [Int.mul_add] at this
    omega
  · intro h
    refine Classical.byContradiction fun hn => ?_
    have := Int.mul_le_mul_of_nonneg_left (show nth b m + 1 ≤ nth a m by omega) (Int.le_of_lt hS)
    rw [Int.mul_add] at this
    omega

set_option maxHeartbeats 1000000 in
set_option maxRecDepth 100000 in
theorem ahead_any (a b : List Int) (w : World) (ha : Norm a) (hb : Norm b) :
    Calls Try.prog 91 #[.agg (valsK .i64 a), .agg (valsK .i64 b)] w fun e w' => e = .returned (.bool (decide (dnum a < dnum b))) ∧ Below w.heap.size w w' := by
  have HA := Lib.hid ha.1
  have HB := Lib.hid hb.1
  go_enter Try.func91, Try.ntmps91
  go_wp2_with fail
  go_loopw [5] (fun i wr => ∃ k : Nat, k ≤ 16 ∧ i = .int .i64 ((k : Int) - 1) ∧ a.drop k = b.drop k ∧ wr.heap[w.heap.size]? = some (.cells (valsK .i64 a) 100 (0, 0)) ∧ wr.heap[w.heap.size + 1]? = some (.cells (valsK .i64 b) 100 (0, 0)) ∧ Below w.heap.size w wr) (fun i _ => (intOf i + 1).toNat)
  case atStart => exact ⟨16, by omega, rfl, by rw [List.drop_of_length_le (by rw [HA.out]; omega), List.drop_of_length_le (by rw [HB.out]; omega)], new2_0 .., new2_1 .., by go_grown⟩
  case round =>
    obtain ⟨k, hk, rfl, hd, Ra, Rb, Bk⟩ := hrel
    by_cases h0 : k = 0
    · subst h0
      have hab : a = b := hd
      have hf : decide (dnum a < dnum b) = false := by rw [hab]; simp
      have HF := Lib.hid hf
      clear hf hab hd
      go_wp2
      go_returns
      exact ⟨by rw [HF.out]; rfl, Bk⟩
    · obtain ⟨m, rfl⟩ : ∃ m, k = m + 1 := ⟨k - 1, by omega⟩
      have ca := (row_cell Ra m).trans (valsK_get (by rw [HA.out]; omega))
      have cb := (row_cell Rb m).trans (valsK_get (by rw [HB.out]; omega))
      have HRa := Lib.hid Ra
      have HRb := Lib.hid Rb
      have HDr := Lib.hid hd
      clear Ra Rb hd
      by_cases he : nth a m = nth b m
      · have hbe : (nth a m != nth b m) = false := by simp [he]
        have he2 := he
        have HE := Lib.hid he
        clear he he2
        go_wp2
        go_quiet (fail)
        go_wp2
        go_roundw
        case rel =>
          refine ⟨m, by omega, by go_num, ?_, ?_, ?_, ?_⟩
          · rw [drop_nth a m (by rw [HA.out]; omega), drop_nth b m (by rw [HB.out]; omega), HE.out, HDr.out]
          · exact HRa.out
          · exact HRb.out
          · exact below_drewN Bk _
        case measure => simp [intOf]
      · have hbe : (nth a m != nth b m) = true := by simp [he]
        have HX := Lib.hid (ahead_at ha hb (by omega) HDr.out he)
        clear he
        go_wp2
        go_quiet (fail)
        go_wp2
        go_quiet (fail)
        go_wp2
        go_returns
        exact ⟨by rw [← HX.out]; rfl, below_drewN (below_drewN Bk _) _⟩

/-- A difference of digits. -/
def LessOut (a b : List Int) (w : World) (e : Ending) (w' : World) : Prop :=
  ∃ L, e = .returned (.agg (valsK .i64 L)) ∧ Norm L ∧ dnum L = dnum a - dnum b ∧ Below w.heap.size w w'

theorem less_step {A a b : List Int} {k : Nat} {c d v : Int} (hk : k < a.length) (hk' : k < b.length) (hA : A.length = k) (h : dnum A - 65536 ^ k * c = dnum (a.take k) - dnum (b.take k))
    (hv : v - 65536 * d = nth a k - nth b k - c) : dnum (A ++ [v]) - 65536 ^ (k + 1) * d = dnum (a.take (k + 1)) - dnum (b.take (k + 1)) := by
  rw [dnum_append, hA, dnum_take a k hk, dnum_take b k hk', Int.pow_succ]
  simp only [dnum]
  grind

theorem less_end {L a b : List Int} {c : Int} (hL : Norm L) (h : dnum L - 65536 ^ 16 * c = dnum a - dnum b) (hle : dnum b ≤ dnum a) (hc : c = 0 ∨ c = 1) : dnum L = dnum a - dnum b := by
  have hb := dnum_bound L hL.2
  rw [hL.1] at hb
  rcases hc with rfl | rfl
  · omega
  · omega

set_option maxHeartbeats 1000000 in
set_option maxRecDepth 100000 in
theorem less_any (a b : List Int) (w : World) (ha : Norm a) (hb : Norm b) (hle : dnum b ≤ dnum a) :
    Calls Try.prog 92 #[.agg (valsK .i64 a), .agg (valsK .i64 b)] w (LessOut a b w) := by
  have HA := Lib.hid ha.1
  have HB := Lib.hid hb.1
  have HLE := Lib.hid hle
  clear hle
  go_enter Try.func92, Try.ntmps92
  go_wp2_with fail
  go_loopw [5, 6, 7] (fun s i _ wr => ∃ (k : Nat) (c : Int) (A : List Int), k ≤ 16 ∧ i = .int .i64 k ∧ s = .int .i64 c ∧ A.length = k ∧ (∀ x ∈ A, 0 ≤ x ∧ x < 65536) ∧ (c = 0 ∨ c = 1) ∧ dnum A - 65536 ^ k * c = dnum (a.take k) - dnum (b.take k) ∧ wr.heap[w.heap.size]? = some (.cells (valsK .i64 (A ++ a.drop k)) 100 (0, 0)) ∧ wr.heap[w.heap.size + 1]? = some (.cells (valsK .i64 b) 100 (0, 0)) ∧ wr.heap[w.heap.size + 2]? = some (.cells (valsK .i64 z16) 100 (0, 0)) ∧ Below w.heap.size w wr) (fun _ i _ _ => 16 - (intOf i).toNat)
  case atStart => exact ⟨0, 0, [], by omega, rfl, rfl, rfl, (fun x hx => by cases hx), by omega, by simp [dnum], new3_0 .., new3_1 .., new3_2 .., by go_grown⟩
  case round =>
    obtain ⟨k, c, A, hk, rfl, rfl, hA, hN, hc, hd, Ra, Rb, Rc, Bk⟩ := hrel
    by_cases hlt : k < 16
    · have xa := ha.nth k
      have xb := hb.nth k
      rw [drop_nth a k (by rw [HA.out]; exact hlt)] at Ra
      have ca := (row_cell Ra k).trans (valsK_get (by rw [List.length_append, hA]; simp))
      rw [pre_nth _ _ _ _ hA] at ca
      have cb := (row_cell Rb k).trans (valsK_get (by rw [HB.out]; exact hlt))
      have fa := row_free Ra k
      have HRa := Lib.hid Ra
      have HRb := Lib.hid Rb
      have HRc := Lib.hid Rc
      have HAl := Lib.hid hA
      have HN := Lib.hid hN
      have HD := Lib.hid hd
      clear Ra Rb Rc hA hN hd
      have hc0 : 0 ≤ c ∧ c ≤ 1 := by omega
      clear hc
      by_cases hneg : nth a k - nth b k - c < 0
      · go_wp2
        go_quiet (fail)
        go_wp2
        go_roundw
        case rel =>
          refine ⟨k + 1, 1, A ++ [nth a k - nth b k - c + 65536], by omega, by go_num, rfl, by simp [HAl.out], ?_, by omega, less_step (by rw [HA.out]; exact hlt) (by rw [HB.out]; exact hlt) HAl.out HD.out (by omega), ?_, ?_, ?_, ?_⟩
          · intro x hx'
            rw [List.mem_append] at hx'
            rcases hx' with h | h
            · exact HN.out x h
            · rw [List.mem_singleton] at h; subst h; omega
          · refine (row_set (i := k) HRa.out).trans ?_
            rw [valsK_set, pre_set _ _ _ _ _ HAl.out]
          · exact row_set_other HRb.out (by omega)
          · exact row_set_other HRc.out (by omega)
          · exact Below.setCell (below_drewN Bk _) (by simp) _
        case measure => simp [intOf]; omega
      · go_wp2
        go_quiet (fail)
        go_wp2
        go_roundw
        case rel =>
          refine ⟨k + 1, 0, A ++ [nth a k - nth b k - c], by omega, by go_num, rfl, by simp [HAl.out], ?_, by omega, less_step (by rw [HA.out]; exact hlt) (by rw [HB.out]; exact hlt) HAl.out HD.out (by omega), ?_, ?_, ?_, ?_⟩
          · intro x hx'
            rw [List.mem_append] at hx'
            rcases hx' with h | h
            · exact HN.out x h
            · rw [List.mem_singleton] at h; subst h; omega
          · refine (row_set (i := k) HRa.out).trans ?_
            rw [valsK_set, pre_set _ _ _ _ _ HAl.out]
          · exact row_set_other HRb.out (by omega)
          · exact row_set_other HRc.out (by omega)
          · exact Below.setCell (below_drewN Bk _) (by simp) _
        case measure => simp [intOf]; omega
    · obtain rfl : k = 16 := by omega
      have e16 : A ++ a.drop 16 = A := by rw [List.drop_of_length_le (by rw [HA.out]; omega)]; exact List.append_nil _
      rw [e16] at Ra
      rw [List.take_of_length_le (by rw [HA.out]; omega), List.take_of_length_le (by rw [HB.out]; omega)] at hd
      have hfin := less_end ⟨hA, hN⟩ hd HLE.out hc
      have HF := Lib.hid hfin
      have HAl := Lib.hid hA
      clear hd hA hfin
      go_wp2_with (first | (refine ld_row rfl 100 (.tmp 2) rfl _ (by rfl) _ _ Ra 16 tDig (by rw [valsK_size, HAl.out]) ?_) | (refine st_row rfl 100 (.tmp 4) _ rfl _ _ (by rfl) (by rfl) _ _ Rc 16 tDig (by rw [valsK_size, HAl.out]) (by rfl) (valsK_one _ _) ?_))
      refine ret_row rfl _ _ _ rfl (row_put Rc) 16 tDig (by rw [valsK_size, HAl.out]) rfl ?_
      exact ⟨A, rfl, ⟨HAl.out, hN⟩, HF.out, below_setRow Bk (by omega) _⟩
end Go.Proofs.Ytciakfhjjnmeeaa

namespace Go.Proofs.Ytciakfhjjnmeeaa
open Nt

theorem dnum_le (M : Int) : ∀ l : List Int, (∀ x ∈ l, 0 ≤ x ∧ x ≤ M) → 0 ≤ dnum l ∧ dnum l * 65535 ≤ M * (65536 ^ l.length - 1)
  | [], _ => by simp [dnum]
  | b :: r, h => by
    have hb := h b (by simp)
    have hr := dnum_le M r (fun x hx => h x (by simp [hx]))
    simp only [dnum, List.length_cons, Int.pow_succ]
    refine ⟨by omega, ?_⟩
    rw [Int.mul_sub] at hr
    have e : M * (65536 ^ r.length * 65536 - 1) = 65536 * (M * 65536 ^ r.length) - M := by grind
    rw [e]
    omega

theorem dnum_set0 (l : List Int) (v : Int) (h : 0 < l.length) : dnum (l.set 0 v) = dnum l + (v - nth l 0) := by
  rw [dnum_set l 0 v h]; simp

/-- Where the reference stands behind k turns. -/
def St (k : Nat) (n : F) (l : List Int) : Prop :=
  l.length = 16 ∧ (∀ x ∈ l, 0 ≤ x ∧ x < 2251799813685248) ∧ dnum l % 57896044618658097711785492504343953926634992332820282019728792003956564819949 = (n.val : Int) ∧
  (k = 1 → dnum l < 115792089237316195423570985008687907853269984665640564039457584012311176151040) ∧
  (2 ≤ k → dnum l < 115792089237316195423570985008687907853269984665640564039457584007913129639936) ∧ (3 ≤ k → Norm l)

theorem St.step {k : Nat} {n : F} {l L : List Int} {c : Int} (h : St k n l) (hL : Norm L) (hc : 0 ≤ c) (hd : dnum l = dnum L + 65536 ^ 16 * c) :
    c ≤ 68719476736 ∧ St (k + 1) n (L.set 0 (nth L 0 + 38 * c)) := by
  obtain ⟨h1, h2, h3, h4, h5, h6⟩ := h
  have hb := dnum_le 2251799813685247 l (fun x hx => by have := h2 x hx; omega)
  rw [h1] at hb
  have hLb := dnum_bound L hL.2
  rw [hL.1] at hLb
  have hn := hL.nth 0
  have hcb : c ≤ 34360262700 := by omega
  have hd0 := dnum_set0 L (nth L 0 + 38 * c) (by rw [hL.1]; omega)
  have hd1 : dnum (L.set 0 (nth L 0 + 38 * c)) = dnum L + 38 * c := by rw [hd0]; omega
  clear hd0
  refine ⟨by omega, by simp [hL.1], ?_, ?_, ?_, ?_, ?_⟩
  · intro x hx
    rcases List.mem_or_eq_of_mem_set hx with h | h
    · have := hL.2 x h; omega
    · subst h; omega
  · rw [hd1]
    have e : dnum l = dnum L + 38 * c + 57896044618658097711785492504343953926634992332820282019728792003956564819949 * (2 * c) := by rw [hd]; omega
    rw [← h3, e, Int.add_mul_emod_self_left]
  · intro hk
    rw [hd1]; omega
  · intro hk
    rw [hd1]
    by_cases k1 : k = 1
    · have := h4 k1; omega
    · have := h5 (by omega); omega
  · intro hk
    have := h5 (by omega)
    have hc0 : c = 0 := by omega
    subst hc0
    have e : nth L 0 + 38 * 0 = nth L 0 := by omega
    rw [e, nth_get (by rw [hL.1]; omega), List.set_getElem_self]
    exact hL

theorem St.start (n : F) (l : List Int) (hl : l.length = 16) (hb : ∀ x ∈ l, 0 ≤ x ∧ x < 1125899906842624) (hn : dnum l % 57896044618658097711785492504343953926634992332820282019728792003956564819949 = (n.val : Int)) : St 0 n l :=
  ⟨hl, fun x hx => by have := hb x hx; omega, hn, fun h => by omega, fun h => by omega, fun h => by omega⟩

theorem split_at15 (L : List Int) (h : Norm L) : ∃ r, dnum L = r + 1766847064778384329583297500742918515827483896875618958121606201292619776 * nth L 15 ∧ 0 ≤ r ∧ r < 1766847064778384329583297500742918515827483896875618958121606201292619776 := by
  have b := dnum_bound (L.take 15) (fun x hx => h.2 x (List.mem_of_mem_take hx))
  have hl : (L.take 15).length = 15 := by rw [List.length_take, h.1]; omega
  rw [hl] at b
  have e := dnum_take L 15 (by rw [h.1]; omega)
  rw [List.take_of_length_le (by rw [h.1]; omega)] at e
  exact ⟨dnum (L.take 15), by rw [e]; omega, b.1, by omega⟩

/-- The highest bit taken off, and counted 19 times. -/
theorem high_off {n : F} {L : List Int} (h : Norm L) (hn : dnum L % 57896044618658097711785492504343953926634992332820282019728792003956564819949 = (n.val : Int)) :
    ((L.set 15 (nth L 15 % 32768)).set 0 (nth L 0 + 19 * (nth L 15 / 32768))).length = 16 ∧ (∀ x ∈ (L.set 15 (nth L 15 % 32768)).set 0 (nth L 0 + 19 * (nth L 15 / 32768)), 0 ≤ x ∧ x < 2251799813685248) ∧
    dnum ((L.set 15 (nth L 15 % 32768)).set 0 (nth L 0 + 19 * (nth L 15 / 32768))) % 57896044618658097711785492504343953926634992332820282019728792003956564819949 = (n.val : Int) ∧
    0 ≤ dnum ((L.set 15 (nth L 15 % 32768)).set 0 (nth L 0 + 19 * (nth L 15 / 32768))) ∧
    dnum ((L.set 15 (nth L 15 % 32768)).set 0 (nth L 0 + 19 * (nth L 15 / 32768))) < 57896044618658097711785492504343953926634992332820282019728792003956564820000 := by
  have h0 := h.nth 0
  have h15 := h.nth 15
  have hl : (L.set 15 (nth L 15 % 32768)).length = 16 := by simp [h.1]
  have e0 : nth (L.set 15 (nth L 15 % 32768)) 0 = nth L 0 := by rw [nth_set _ _ _ _ (by rw [h.1]; omega), if_neg (by omega)]
  have d1 := dnum_set0 (L.set 15 (nth L 15 % 32768)) (nth L 0 + 19 * (nth L 15 / 32768)) (by rw [hl]; omega)
  rw [e0] at d1
  have d2 := dnum_set L 15 (nth L 15 % 32768) (by rw [h.1]; omega)
  obtain ⟨r, sp, r0, r1⟩ := split_at15 L h
  have d3 : dnum ((L.set 15 (nth L 15 % 32768)).set 0 (nth L 0 + 19 * (nth L 15 / 32768))) = dnum L - 57896044618658097711785492504343953926634992332820282019728792003956564819949 * (nth L 15 / 32768) := by
    rw [d1, d2]
    have e := Int.mul_ediv_add_emod (nth L 15) 32768
    omega
  refine ⟨by simp [h.1], ?_, ?_, ?_, ?_⟩
  · intro x hx
    rcases List.mem_or_eq_of_mem_set hx with h' | h'
    · rcases List.mem_or_eq_of_mem_set h' with h' | h'
      · have := h.2 x h'; omega
      · subst h'; omega
    · subst h'; omega
  · rw [d3, ← hn]
    have e : dnum L - 57896044618658097711785492504343953926634992332820282019728792003956564819949 * (nth L 15 / 32768) = dnum L + 57896044618658097711785492504343953926634992332820282019728792003956564819949 * (-(nth L 15 / 32768)) := by omega
    rw [e, Int.add_mul_emod_self_left]
  · rw [d3]; omega
  · rw [d3]; omega
end Go.Proofs.Ytciakfhjjnmeeaa

namespace Go.Proofs.Ytciakfhjjnmeeaa
open Go.RowKit Nt

/-- The value of a reference's number. -/
abbrev bv (n : F) : Value := .agg (vals (bytesN n.val))
/-- The reference's number n comes back. -/
def NumOut (n : F) (w : World) (e : Ending) (w' : World) : Prop := e = .returned (bv n) ∧ Below w.heap.size w w'

theorem lastly {n : F} {D : List Int} (hD : Norm D) (hd : dnum D = (n.val : Int)) : undg D = bytesN n.val :=
  bytes_of_num _ (by rw [undg_len, hD.1]) (undg_byt _ hD.2) _ (by rw [undg_num, hd])

set_option maxHeartbeats 2000000 in
set_option maxRecDepth 100000 in
theorem least08_any (l : List Int) (n : F) (w : World) (hl : l.length = 16) (hb : ∀ x ∈ l, 0 ≤ x ∧ x < 1125899906842624) (hn : dnum l % 57896044618658097711785492504343953926634992332820282019728792003956564819949 = (n.val : Int)) :
    Calls Try.prog 68 #[.agg (valsK .i64 l)] w (NumOut n w) := by
  have hst := St.start n l hl hb hn
  clear hl hb hn
  go_enter Try.func68, Try.ntmps68
  go_wp2_with fail
  go_loopw [3, 4] (fun s i wr => ∃ (k : Nat) (L : List Int) (c : Int), k ≤ 4 ∧ i = .int .i64 k ∧ s = .int .i64 c ∧ St k n L ∧ wr.heap[w.heap.size]? = some (.cells (valsK .i64 L) 100 (0, 0)) ∧ wr.heap[w.heap.size + 1]? = some (.cells (vals z32) 29 (0, 0)) ∧ Below w.heap.size w wr) (fun _ i _ => 4 - (intOf i).toNat)
  case atStart => exact ⟨0, l, 0, by omega, rfl, rfl, hst, new2_0 .., new2_1 .., by go_grown⟩
  case round =>
    obtain ⟨k, L, c, hk, rfl, rfl, hS, Ra, Rb, Bk⟩ := hrel
    have hLl := Lib.hid hS.1
    by_cases hlt : k < 4
    · go_wp2_with (refine ld_row rfl 100 (.tmp 1) rfl _ (by rfl) _ _ Ra 16 tDig (by rw [valsK_size, hLl.out]) ?_)
      refine (carried08_any L _ hLl.out hS.2.1).mono ?_
      rintro e w1 ⟨M, d, rfl, hM, hd0, hd, hb1⟩
      have hst' := hS.step hM hd0 hd
      have hdb := hst'.1
      have Qa := row_keep hb1 Ra (row_lt Ra)
      have Qb := row_keep hb1 Rb (row_lt Rb)
      have hMn := hM.nth 0
      have hMl := Lib.hid hM.1
      have Bm : Below w.heap.size w w1 := Bk.trans (hb1.mono Bk.size)
      have HST := Lib.hid hst'.2
      have HRL := Lib.hid hLl.out
      clear Ra Rb hst' hS hd hM hb1 hLl hst
      go_wp2_with (refine st_row rfl 100 (.tmp 1) _ rfl _ _ (by rfl) (by rfl) _ _ Qa 16 tDig (by rw [valsK_size, hMl.out]) (by rw [valsK_size, HRL.out]) (valsK_one _ _) ?_; have Pa := row_put (cs' := valsK .i64 M) Qa; have Pb := row_put_other (cs := valsK .i64 M) Qb (by omega : w.heap.size + 1 ≠ w.heap.size); have Bp := below_setRow Bm (Nat.le_refl _) (valsK .i64 M); clear Qa Qb Bm; generalize w1.setRow w.heap.size (valsK .i64 M) = W1 at *; have c0 := (row_cell Pa 0).trans (valsK_get (by rw [hMl.out]; omega)); have f0 := row_free Pa 0)
      go_roundw
      case rel =>
        refine ⟨k + 1, _, d, by omega, by go_num, rfl, HST.out, ?_, ?_, ?_⟩
        · refine (row_set (i := 0) Pa).trans ?_
          rw [valsK_set]
        · exact row_set_other Pb (by omega)
        · go_grown
      case measure => simp [intOf]; omega
    · obtain rfl : k = 4 := by omega
      have hN := hS.2.2.2.2.2 (by omega)
      have hV := hS.2.2.1
      obtain ⟨t1, t2, t3, t4, t5⟩ := high_off hN hV
      have h0 := hN.nth 0
      have h15 := hN.nth 15
      have c0 := (row_cell Ra 0).trans (valsK_get (by rw [hLl.out]; omega))
      have c15 := (row_cell Ra 15).trans (valsK_get (by rw [hLl.out]; omega))
      have f0 := row_free Ra 0
      have f15 := row_free Ra 15
      have R1 := row_set (i := 0) (v := .int .i64 (nth L 0 + 19 * (nth L 15 / 32768))) (row_set (i := 15) (v := .int .i64 (nth L 15 % 32768)) Ra)
      rw [valsK_set, valsK_set] at R1
      have HR1 := Lib.hid R1
      have HRb := Lib.hid (row_set_other (i := 0) (v := .int .i64 (nth L 0 + 19 * (nth L 15 / 32768))) (row_set_other (i := 15) (v := .int .i64 (nth L 15 % 32768)) Rb (by omega : w.heap.size + 1 ≠ w.heap.size)) (by omega : w.heap.size + 1 ≠ w.heap.size))
      have HT1 := Lib.hid t1
      have HT2 := Lib.hid t2
      have HT3 := Lib.hid t3
      have HB2 := Lib.hid (show Below w.heap.size w ((wr.setCell ⟨w.heap.size, 15, none⟩ (.int .i64 (nth L 15 % 32768))).setCell ⟨w.heap.size, 0, none⟩ (.int .i64 (nth L 0 + 19 * (nth L 15 / 32768)))) from by go_grown)
      have HT4 := Lib.hid t4
      have HT5 := Lib.hid t5
      clear Ra Rb R1 t1 t2 t3 hS hLl hst hV Bk t4 t5 hN
      go_wp2_with (refine ld_row rfl 100 (.tmp 1) rfl _ (by rfl) _ _ HR1.out 16 tDig (by rw [valsK_size, HT1.out]) ?_)
      refine (carried08_any _ _ HT1.out HT2.out).mono ?_
      rintro e w1 ⟨M, d, rfl, hM, hd0, hd, hb1⟩
      generalize hX : (L.set 15 (nth L 15 % 32768)).set 0 (nth L 0 + 19 * (nth L 15 / 32768)) = X at *
      generalize hWx : ((wr.setCell ⟨w.heap.size, 15, none⟩ (.int .i64 (nth L 15 % 32768))).setCell ⟨w.heap.size, 0, none⟩ (.int .i64 (nth L 0 + 19 * (nth L 15 / 32768)))) = Wx at *
      clear hX hWx c0 c15 f0 f15
      have hMb := dnum_bound M hM.2
      rw [hM.1] at hMb
      have hMb0 := hMb.1
      have hMV : dnum M = dnum X := by have := HT5.out; have := HT4.out; omega
      have hM3 : dnum M % 57896044618658097711785492504343953926634992332820282019728792003956564819949 = (n.val : Int) := by rw [hMV]; exact HT3.out
      have hM5 : dnum M < 57896044618658097711785492504343953926634992332820282019728792003956564820000 := by rw [hMV]; exact HT5.out
      have Qa := row_keep hb1 HR1.out (row_lt HR1.out)
      have Qb := row_keep hb1 HRb.out (row_lt HRb.out)
      have Bm : Below w.heap.size w w1 := HB2.out.trans (hb1.mono HB2.out.size)
      have hMl := Lib.hid hM.1
      have HM3 := Lib.hid hM3
      have HM5 := Lib.hid hM5
      have HXL := Lib.hid HT1.out
      clear hMb hMV hM3 hM5 HT1 HT2 HT3 HT4 HT5 HR1 HRb hb1 hd HB2
      go_wp2_with (refine st_row rfl 100 (.tmp 1) _ rfl _ _ (by rfl) (by rfl) _ _ Qa 16 tDig (by rw [valsK_size, hMl.out]) (by rw [valsK_size, HXL.out]) (valsK_one _ _) ?_; have Pa := row_put (cs' := valsK .i64 M) Qa; have Pb := row_put_other (cs := valsK .i64 M) Qb (by omega : w.heap.size + 1 ≠ w.heap.size); have Bp := below_setRow Bm (Nat.le_refl _) (valsK .i64 M); clear Qa Qb Bm; generalize w1.setRow w.heap.size (valsK .i64 M) = W1 at *)
      refine (prime08_any 0 _ (by omega) (by omega)).mono ?_
      rintro e w2 ⟨rfl, hb2⟩
      have Qa := row_keep hb2 Pa (row_lt Pa)
      have Qb := row_keep hb2 Pb (row_lt Pb)
      have Bm : Below w.heap.size w w2 := Bp.trans (hb2.mono Bp.size)
      clear Pa Pb Bp hb2
      go_wp2_with fail
      refine (digits_any (pb 0) _ (pb_len 0) (pb_byt 0 (by omega) (by omega))).mono ?_
      rintro e w3 ⟨rfl, hb3⟩
      have Pa := row_keep hb3 Qa (row_lt Qa)
      have Pb := row_keep hb3 Qb (row_lt Qb)
      have Bp : Below w.heap.size w w3 := Bm.trans (hb3.mono Bm.size)
      have hpn := dgs_norm (pb 0) (pb_len 0) (pb_byt 0 (by omega) (by omega))
      have hpl := Lib.hid hpn.1
      have hpd := Lib.hid ((dgs_num 16 (pb 0) (pb_len 0)).trans (pb_num 0))
      clear Qa Qb Bm hb3
      generalize dgs (pb 0) = D0 at *
      have hlt3 := row_lt Pb
      go_wp2_with (first | (refine st_new rfl 100 (.tmp 6) _ rfl _ _ _ (by rfl) (by rfl) 16 tDig (by rw [valsK_size, hpl.out]) (by rfl) (valsK_one _ _) ?_; have Qa := row_alloc (x := .cells (valsK .i64 D0) 100) Pa; have Qb := row_alloc (x := .cells (valsK .i64 D0) 100) Pb; have Qc := row_new (w := w3) (x := .cells (valsK .i64 D0) 100); have Bm : Below w.heap.size w (w3.alloc (.cells (valsK .i64 D0) 100)) := (by go_grown); clear Pa Pb Bp; generalize w3.alloc (.cells (valsK .i64 D0) 100) = W3 at *) | (refine ld_row rfl 100 (.tmp 1) rfl _ (by rfl) _ _ Qa 16 tDig (by rw [valsK_size, hMl.out]) ?_) | (refine ld_row rfl 100 (.tmp 6) rfl _ (by rfl) _ _ Qc 16 tDig (by rw [valsK_size, hpl.out]) ?_))
      refine (ahead_any M D0 _ hM hpn).mono ?_
      rintro e w4 ⟨rfl, hb4⟩
      have Pa := row_keep hb4 Qa (row_lt Qa)
      have Pb := row_keep hb4 Qb (row_lt Qb)
      have Pc := row_keep hb4 Qc (row_lt Qc)
      have Bp : Below w.heap.size w w4 := Bm.trans (hb4.mono Bm.size)
      clear Qa Qb Qc Bm hb4
      by_cases hcmp : dnum M < dnum D0
      · have hdec : decide (dnum M < dnum D0) = true := by simp [hcmp]
        rw [hdec]
        have hfin : dnum M = (n.val : Int) := by
          have a1 := hMb0
          have a2 := HM3.out
          have a3 := hpd.out
          omega
        have hfinal := Lib.hid (lastly hM hfin)
        have hDl := Lib.hid hM.1
        clear hcmp hdec hfin
        obtain ⟨D, rfl⟩ : ∃ D, D = M := ⟨_, rfl⟩
        obtain ⟨w5, rfl⟩ : ∃ w5, w5 = w4 := ⟨_, rfl⟩
        have hD := hM
        clear Pc hpn hpl hpd hMl HM3 HM5 hM
        go_wp2_with fail
        have hwl := row_lt Pb
        go_loopw [8] (fun i wr => ∃ k : Nat, k ≤ 16 ∧ i = .int .i64 k ∧ wr.heap[w.heap.size]? = some (.cells (valsK .i64 D) 100 (0, 0)) ∧ wr.heap[w.heap.size + 1]? = some (.cells (vals z32) 29 (0, 0)) ∧ wr.heap[w5.heap.size]? = some (.cells (vals ((undg D).take (2 * k) ++ z32.drop (2 * k))) 29 (0, 0)) ∧ Below w.heap.size w wr) (fun i _ => 16 - (intOf i).toNat)
        case atStart => exact ⟨0, by omega, rfl, row_alloc Pa, row_alloc Pb, row_new, by go_grown⟩
        case round =>
          have hUl := Lib.hid (show (undg D).length = 32 by rw [undg_len, hDl.out])
          obtain ⟨k, hk, rfl, Ra, Rb, Rc, Bk⟩ := hrel
          by_cases hlt : k < 16
          · have ca := (row_cell Ra k).trans (valsK_get (by rw [hDl.out]; omega))
            have xk := hD.nth k
            have e0 := (row_cell Rc (2 * k)).trans (vals_get (by rw [fill_len _ _ _ (by rw [hUl.out]; rfl) (by rw [hUl.out]; omega)]; show 2 * k < 32; omega))
            have e1 := (row_cell Rc (2 * k + 1)).trans (vals_get (by rw [fill_len _ _ _ (by rw [hUl.out]; rfl) (by rw [hUl.out]; omega)]; show 2 * k + 1 < 32; omega))
            have fc := row_free Rc
            have S1 := row_set (i := 2 * k + 1) (v := .int .u8 (nth D k / 256)) (row_set (i := 2 * k) (v := .int .u8 (nth D k % 256)) Rc)
            have f1 := fill_step (undg D) z32 (2 * k) (by rw [hUl.out]; omega) (by rw [hUl.out]; rfl)
            have f2 := fill_step (undg D) z32 (2 * k + 1) (by rw [hUl.out]; omega) (by rw [hUl.out]; rfl)
            rw [undg_even k D (by rw [hDl.out]; omega)] at f1
            rw [undg_odd k D (by rw [hDl.out]; omega)] at f2
            rw [vals_set, vals_set, f1, f2] at S1
            have HS := Lib.hid S1
            have HA := Lib.hid Ra
            have HB := Lib.hid Rb
            clear Ra Rb Rc S1 f1 f2 Pa Pb Bp
            go_wp2
            go_roundw
            case rel =>
              refine ⟨k + 1, by omega, by go_num, ?_, ?_, HS.out, by go_grown⟩
              · exact row_set_other (row_set_other HA.out (by omega)) (by omega)
              · exact row_set_other (row_set_other HB.out (by omega)) (by omega)
            case measure => simp [intOf]; omega
          · obtain rfl : k = 16 := by omega
            have e16 : (undg D).take (2 * 16) ++ z32.drop (2 * 16) = bytesN n.val := by rw [List.take_of_length_le (by rw [hUl.out]; omega), ← hfinal.out]; exact List.append_nil _
            rw [e16] at Rc
            clear Pa Pb Bp
            go_wp2_with (first | (refine ld_row rfl 29 (.tmp 7) rfl _ (by rfl) _ _ Rc 32 tNum (by rw [vals_size, bytesN_len]) ?_) | (refine st_row rfl 29 (.tmp 2) _ rfl _ _ (by rfl) (by rfl) _ _ Rb 32 tNum (by rw [vals_size, bytesN_len]) (by rfl) (vals_one _) ?_))
            refine ret_row rfl _ _ _ rfl (row_put Rb) 32 tNum (by rw [vals_size, bytesN_len]) rfl ?_
            exact ⟨rfl, below_setRow Bk (by omega) _⟩
      · have hdec : decide (dnum M < dnum D0) = false := by simp [hcmp]
        rw [hdec]
        go_wp2_with (first | (refine ld_row rfl 100 (.tmp 1) rfl _ (by rfl) _ _ Pa 16 tDig (by rw [valsK_size, hMl.out]) ?_) | (refine ld_row rfl 100 (.tmp 6) rfl _ (by rfl) _ _ Pc 16 tDig (by rw [valsK_size, hpl.out]) ?_))
        refine (less_any M D0 _ hM hpn (by omega)).mono ?_
        rintro e w5 ⟨D, rfl, hD, hd5, hb5⟩
        have Qa := row_keep hb5 Pa (row_lt Pa)
        have Qb := row_keep hb5 Pb (row_lt Pb)
        have Bm : Below w.heap.size w w5 := Bp.trans (hb5.mono Bp.size)
        have hfin : dnum D = (n.val : Int) := by
          have a2 := HM3.out
          have a3 := hpd.out
          have a4 := HM5.out
          omega
        have hfinal := Lib.hid (lastly hD hfin)
        have hDl := Lib.hid hD.1
        have hml := Lib.hid hMl.out
        clear Pa Pb Pc Bp hb5 hfin hpn hpl hpd hMl HM3 HM5 hM hcmp hdec hd5
        go_wp2_with (refine st_row rfl 100 (.tmp 1) _ rfl _ _ (by rfl) (by rfl) _ _ Qa 16 tDig (by rw [valsK_size, hDl.out]) (by rw [valsK_size, hml.out]) (valsK_one _ _) ?_; have Pa := row_put (cs' := valsK .i64 D) Qa; have Pb := row_put_other (cs := valsK .i64 D) Qb (by omega : w.heap.size + 1 ≠ w.heap.size); have Bp := below_setRow Bm (Nat.le_refl _) (valsK .i64 D); clear Qa Qb Bm; generalize w5.setRow w.heap.size (valsK .i64 D) = w5 at *)
        have hwl := row_lt Pb
        go_loopw [8] (fun i wr => ∃ k : Nat, k ≤ 16 ∧ i = .int .i64 k ∧ wr.heap[w.heap.size]? = some (.cells (valsK .i64 D) 100 (0, 0)) ∧ wr.heap[w.heap.size + 1]? = some (.cells (vals z32) 29 (0, 0)) ∧ wr.heap[w5.heap.size]? = some (.cells (vals ((undg D).take (2 * k) ++ z32.drop (2 * k))) 29 (0, 0)) ∧ Below w.heap.size w wr) (fun i _ => 16 - (intOf i).toNat)
        case atStart => exact ⟨0, by omega, rfl, row_alloc Pa, row_alloc Pb, row_new, by go_grown⟩
        case round =>
          have hUl := Lib.hid (show (undg D).length = 32 by rw [undg_len, hDl.out])
          obtain ⟨k, hk, rfl, Ra, Rb, Rc, Bk⟩ := hrel
          by_cases hlt : k < 16
          · have ca := (row_cell Ra k).trans (valsK_get (by rw [hDl.out]; omega))
            have xk := hD.nth k
            have e0 := (row_cell Rc (2 * k)).trans (vals_get (by rw [fill_len _ _ _ (by rw [hUl.out]; rfl) (by rw [hUl.out]; omega)]; show 2 * k < 32; omega))
            have e1 := (row_cell Rc (2 * k + 1)).trans (vals_get (by rw [fill_len _ _ _ (by rw [hUl.out]; rfl) (by rw [hUl.out]; omega)]; show 2 * k + 1 < 32; omega))
            have fc := row_free Rc
            have S1 := row_set (i := 2 * k + 1) (v := .int .u8 (nth D k / 256)) (row_set (i := 2 * k) (v := .int .u8 (nth D k % 256)) Rc)
            have f1 := fill_step (undg D) z32 (2 * k) (by rw [hUl.out]; omega) (by rw [hUl.out]; rfl)
            have f2 := fill_step (undg D) z32 (2 * k + 1) (by rw [hUl.out]; omega) (by rw [hUl.out]; rfl)
            rw [undg_even k D (by rw [hDl.out]; omega)] at f1
            rw [undg_odd k D (by rw [hDl.out]; omega)] at f2
            rw [vals_set, vals_set, f1, f2] at S1
            have HS := Lib.hid S1
            have HA := Lib.hid Ra
            have HB := Lib.hid Rb
            clear Ra Rb Rc S1 f1 f2 Pa Pb Bp
            go_wp2
            go_roundw
            case rel =>
              refine ⟨k + 1, by omega, by go_num, ?_, ?_, HS.out, by go_grown⟩
              · exact row_set_other (row_set_other HA.out (by omega)) (by omega)
              · exact row_set_other (row_set_other HB.out (by omega)) (by omega)
            case measure => simp [intOf]; omega
          · obtain rfl : k = 16 := by omega
            have e16 : (undg D).take (2 * 16) ++ z32.drop (2 * 16) = bytesN n.val := by rw [List.take_of_length_le (by rw [hUl.out]; omega), ← hfinal.out]; exact List.append_nil _
            rw [e16] at Rc
            clear Pa Pb Bp
            go_wp2_with (first | (refine ld_row rfl 29 (.tmp 7) rfl _ (by rfl) _ _ Rc 32 tNum (by rw [vals_size, bytesN_len]) ?_) | (refine st_row rfl 29 (.tmp 2) _ rfl _ _ (by rfl) (by rfl) _ _ Rb 32 tNum (by rw [vals_size, bytesN_len]) (by rfl) (vals_one _) ?_))
            refine ret_row rfl _ _ _ rfl (row_put Rb) 32 tNum (by rw [vals_size, bytesN_len]) rfl ?_
            exact ⟨rfl, below_setRow Bk (by omega) _⟩
end Go.Proofs.Ytciakfhjjnmeeaa

namespace Go.Proofs.Ytciakfhjjnmeeaa
open Go.RowKit Nt

theorem top_off (l : List Int) (hl : l.length = 32) (hb : Byt l) :
    num (l.set 31 (nth l 31 % 128)) = num l % 57896044618658097711785492504343953926634992332820282019728792003956564819968 ∧ Byt (l.set 31 (nth l 31 % 128)) := by
  have e1 : l = l.take 31 ++ [nth l 31] := by
    have := drop_nth l 31 (by omega)
    rw [List.drop_of_length_le (show l.length ≤ 31 + 1 by omega)] at this
    rw [← this, List.take_append_drop]
  have h31 := hb.nth 31
  have hlt : (l.take 31).length = 31 := by rw [List.length_take]; omega
  have e2 : l.set 31 (nth l 31 % 128) = l.take 31 ++ [nth l 31 % 128] := by
    conv => lhs; rw [e1]
    rw [List.set_append_right _ _ (by omega), hlt]
    have : nth (l.take 31 ++ [nth l 31]) 31 = nth l 31 := by rw [← e1]
    rw [this]; rfl
  have hbt := num_bound _ (hb.take 31)
  rw [hlt] at hbt
  refine ⟨?_, ?_⟩
  · rw [e2]
    conv => rhs; rw [e1]
    rw [num_append, num_append, hlt]
    simp only [num]
    omega
  · rw [e2]
    intro x hx
    rw [List.mem_append] at hx
    rcases hx with h | h
    · exact hb.take 31 x h
    · rw [List.mem_singleton] at h; subst h; omega

theorem numF_val (l : List Int) (hb : Byt l) : ((numF l).val : Int) = num l % 57896044618658097711785492504343953926634992332820282019728792003956564819968 % 57896044618658097711785492504343953926634992332820282019728792003956564819949 := by
  have h := num_bound l hb
  show (((num l % 57896044618658097711785492504343953926634992332820282019728792003956564819968).toNat % P : Nat) : Int) = _
  rw [Int.natCast_emod, PI_eq, Int.toNat_of_nonneg (by omega)]

set_option maxHeartbeats 1000000 in
set_option maxRecDepth 100000 in
theorem of08_any (l : List Int) (w : World) (hl : l.length = 32) (hb : Byt l) :
    Calls Try.prog 21 #[.agg (vals l)] w (NumOut (numF l) w) := by
  obtain ⟨t1, t2⟩ := top_off l hl hb
  have t3 : (l.set 31 (nth l 31 % 128)).length = 32 := by simp [hl]
  have t4 := dgs_norm _ t3 t2
  have t5 := (dgs_num 16 _ t3).trans t1
  have t6 : dnum (dgs (l.set 31 (nth l 31 % 128))) % 57896044618658097711785492504343953926634992332820282019728792003956564819949 = ((numF l).val : Int) := by rw [t5, numF_val l hb]
  have H3 := Lib.hid t3
  have H2 := Lib.hid t2
  have H4 := Lib.hid t4
  have H6 := Lib.hid t6
  have HL := Lib.hid hl
  have v31 : (vals l)[31]? = some (.int .u8 (nth l 31)) := vals_get (by omega)
  have vs : (vals l).setIfInBounds 31 (.int .u8 (nth l 31 % 128)) = vals (l.set 31 (nth l 31 % 128)) := vals_set _ _ _
  have h31 := hb.nth 31
  clear t1 t2 t3 t4 t5 t6 hl
  go_enter Try.func21, Try.ntmps21
  go_wp2_with (refine ld_row rfl 22 (.tmp 1) rfl _ (by rfl) _ _ (new2_0 ..) 32 tBytes (by rw [vals_size, H3.out]) ?_)
  generalize l.set 31 (nth l 31 % 128) = l' at *
  refine (digits_any l' _ H3.out H2.out).mono ?_
  rintro e w1 ⟨rfl, hb1⟩
  have Q1 := row_keep hb1 (new2_1 ..) (by simp)
  have B1 : Below w.heap.size w w1 := Below.trans (by go_grown) (hb1.mono (by simp; omega))
  clear hb1 v31 vs
  go_wp2_with fail
  refine (least08_any _ (numF l) _ H4.out.1 (fun x hx => by have := H4.out.2 x hx; omega) H6.out).mono ?_
  rintro e w2 ⟨rfl, hb2⟩
  have Q2 := row_keep hb2 Q1 (row_lt Q1)
  have B2 : Below w.heap.size w w2 := B1.trans (hb2.mono B1.size)
  clear Q1 B1 hb2
  go_wp2_with (refine st_row rfl 29 (.tmp 2) _ rfl _ _ (by rfl) (by rfl) _ _ Q2 32 tNum (by rw [vals_size, bytesN_len]) (by rfl) (vals_one _) ?_)
  refine ret_row rfl _ _ _ rfl (row_put Q2) 32 tNum (by rw [vals_size, bytesN_len]) rfl ?_
  exact ⟨rfl, below_setRow B2 (by omega) _⟩

/-- The bytes of a word. -/
theorem small_bytes (n : Nat) (h : n < 18446744073709551616) : (Fin.ofNat P n).val = n := Nat.mod_eq_of_lt (Nat.lt_trans h (by decide))

theorem small_rest (n : Nat) (h : n < 18446744073709551616) : (bytesN n).take 8 ++ z32.drop 8 = bytesN n := by
  conv => rhs; rw [← List.take_append_drop 8 (bytesN n)]
  congr 1
  apply List.ext_getElem
  · simp [bytesN_len, z32]
  · intro j h1 h2
    rw [List.length_drop, bytesN_len] at h2
    rw [List.getElem_drop, List.getElem_drop]
    have e1 : z32[8 + j]'(by show 8 + j < 32; omega) = 0 := List.getElem_replicate _
    have e2 := nth_bytesN n (8 + j) (by omega)
    rw [nth_get (by rw [bytesN_len]; omega)] at e2
    have hp : 256 ^ 8 ≤ 256 ^ (8 + j) := Nat.pow_le_pow_right (by omega) (by omega)
    have : byteOf n (8 + j) = 0 := by
      rw [byteOf, Nat.div_eq_of_lt (by omega)]
    rw [e1, e2, this]; rfl

set_option maxHeartbeats 1000000 in
set_option maxRecDepth 100000 in
theorem small08_any (n : Nat) (w : World) (h : n < 18446744073709551616) :
    Calls Try.prog 23 #[.int .u64 n] w (NumOut (Fin.ofNat P n) w) := by
  have HR := Lib.hid (small_rest n h)
  have HV := Lib.hid (small_bytes n h)
  have hl := Lib.hid (bytesN_len n)
  go_enter Try.func23, Try.ntmps23
  go_wp2_with fail
  go_loopw [0, 4] (fun v i wr => ∃ k : Nat, k ≤ 8 ∧ i = .int .i64 k ∧ v = .int .u64 (n / 256 ^ k : Nat) ∧ wr.heap[w.heap.size]? = some (.cells (vals z32) 29 (0, 0)) ∧ wr.heap[w.heap.size + 1]? = some (.cells (vals ((bytesN n).take k ++ z32.drop k)) 29 (0, 0)) ∧ Below w.heap.size w wr) (fun _ i _ => 8 - (intOf i).toNat)
  case atStart => exact ⟨0, by omega, rfl, by rw [Nat.pow_zero, Nat.div_one], new2_0 .., new2_1 .., by go_grown⟩
  case round =>
    obtain ⟨k, hk, rfl, rfl, Ra, Rb, Bk⟩ := hrel
    by_cases hlt : k < 8
    · have cz := (row_cell Rb k).trans (vals_get (by rw [fill_len _ _ _ (by rw [hl.out]; rfl) (by rw [hl.out]; omega)]; show k < 32; omega))
      have fc := row_free Rb k
      have hq : n / 256 ^ k < 18446744073709551616 := Nat.lt_of_le_of_lt (Nat.div_le_self _ _) h
      have S1 := row_set (i := k) (v := .int .u8 (byteOf n k : Nat)) Rb
      rw [vals_set, ← nth_bytesN n k (by omega), fill_step _ _ _ (by rw [hl.out]; omega) (by rw [hl.out]; rfl), nth_bytesN n k (by omega)] at S1
      have HS := Lib.hid S1
      have HA := Lib.hid Ra
      have hd := Lib.hid (show n / 256 ^ (k + 1) = n / 256 ^ k / 256 by rw [Nat.pow_succ, Nat.div_div_eq_div_mul])
      have hby := Lib.hid (show byteOf n k = n / 256 ^ k % 256 from rfl)
      clear Ra Rb S1
      generalize byteOf n k = bt at *
      generalize n / 256 ^ k = q at *
      go_wp2
      go_roundw
      case rel =>
        refine ⟨k + 1, by omega, by go_num, ?_, row_set_other HA.out (by omega), ?_, by go_grown⟩
        · rw [hd.out]; go_num
        · have e := HS.out
          rw [hby.out] at e
          exact e
      case measure => simp [intOf]; omega
    · obtain rfl : k = 8 := by omega
      rw [HR.out] at Rb
      go_wp2_with (first | (refine ld_row rfl 29 (.tmp 3) rfl _ (by rfl) _ _ Rb 32 tNum (by rw [vals_size, bytesN_len]) ?_) | (refine st_row rfl 29 (.tmp 2) _ rfl _ _ (by rfl) (by rfl) _ _ Ra 32 tNum (by rw [vals_size, bytesN_len]) (by rfl) (vals_one _) ?_))
      refine ret_row rfl _ _ _ rfl (row_put Ra) 32 tNum (by rw [vals_size, bytesN_len]) rfl ?_
      exact ⟨by rw [bv, HV.out], below_setRow Bk (by omega) _⟩
end Go.Proofs.Ytciakfhjjnmeeaa
