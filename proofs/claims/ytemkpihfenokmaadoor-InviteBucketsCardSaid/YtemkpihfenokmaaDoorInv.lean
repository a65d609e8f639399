/- A region that draws its order, by an invariant over what has come up so far: no order is enumerated; the last operations, whose order is forced, are walked as a list. Said over any program. -/
import Derived.Test.YtemkpihfenokmaaDoorReg
import Derived.StillTail
namespace Go.Proofs.YtemkpihfenokmaaDoor
open Go.RowKit
variable {P : Program}

/-- How many of the first n have not come up. -/
def cntF : Nat → (Nat → Bool) → Nat
  | 0, _ => 0
  | n + 1, f => cntF n f + (if f n then 0 else 1)

def upF (f : Nat → Bool) (i : Nat) : Nat → Bool := fun j => if j = i then true else f j

theorem cntF_same : ∀ (n i : Nat) (f : Nat → Bool), n ≤ i → cntF n (upF f i) = cntF n f
  | 0, _, _, _ => rfl
  | n + 1, i, f, h => by
    have e : upF f i n = f n := by simp only [upF]; rw [if_neg (by omega)]
    simp only [cntF]; rw [cntF_same n i f (by omega), e]

theorem cntF_up : ∀ (n i : Nat) (f : Nat → Bool), i < n → f i = false → cntF n (upF f i) + 1 = cntF n f
  | 0, _, _, h, _ => by omega
  | n + 1, i, f, h, hf => by
    simp only [cntF]
    by_cases e : i = n
    · subst e
      rw [cntF_same i i f (Nat.le_refl _), hf]
      simp [upF]
    · have e2 : upF f i n = f n := by simp only [upF]; rw [if_neg (by omega)]
      have := cntF_up n i f (by omega) hf
      rw [e2]; omega

theorem cntF_zero : ∀ (n : Nat) (f : Nat → Bool), cntF n f = 0 → ∀ j, j < n → f j = true
  | 0, _, _, j, h => by omega
  | n + 1, f, h, j, hj => by
    simp only [cntF] at h
    by_cases e : j = n
    · subst e
      cases hf : f j
      · rw [hf] at h; simp at h
      · rfl
    · exact cntF_zero n f (by omega) j (by omega)

theorem cntF_least : ∀ (n : Nat) (f : Nat → Bool), cntF n f ≠ 0 → ∃ j, j < n ∧ f j = false ∧ ∀ k, k < j → f k = true
  | 0, _, h => absurd rfl h
  | n + 1, f, h => by
    by_cases h0 : cntF n f = 0
    · have hall := cntF_zero n f h0
      cases hf : f n
      · exact ⟨n, by omega, hf, hall⟩
      · exfalso; apply h; simp only [cntF]; rw [h0, hf]; rfl
    · obtain ⟨j, h1, h2, h3⟩ := cntF_least n f h0
      exact ⟨j, by omega, h2, h3⟩

/-- Each operation waits for earlier ones alone. -/
def backB (ops : Array Oper) : Bool := (List.range ops.size).all fun i => match ops[i]? with
  | some o => o.after.all fun e => !Region.binds .any e || decide (e.on < i)
  | none => true

/-- The region's closed facts. -/
def headB (ops : Array Oper) (n : Nat) : Bool :=
  backB ops && decide (n < ops.size) && Region.sinkB .any ops n && Region.chainB .any ops n && Region.seqB .any ops (ops.size - n) n ((Array.range ops.size).map fun j => decide (j < n))

theorem listed_eq {listed : Array Bool} {m n : Nat} (hs : listed.size = m) (h1 : ∀ j, j < n → listed.getD j false = true) (h2 : ∀ t, n ≤ t → t < m → listed.getD t true = false) : listed = (Array.range m).map fun j => decide (j < n) := by
  apply Array.ext
  · simp [hs]
  · intro j hj hj'
    rw [Array.getElem_map, Array.getElem_range]
    by_cases h : j < n
    · have := h1 j h
      simp [hj] at this
      simp [h, this]
    · have := h2 j (by omega) (by omega)
      simp [hj] at this
      simp [h, this]

theorem wp_region_inv {id : Nat} {Q : Exit → Act → World → Prop} {a : Act} {w : World} {l : List Oper} (n : Nat) (hm : P.follows .mixedOrders = true) (hB : headB l.toArray n = true)
    (I : (Nat → Bool) → Act → World → Prop) (h0 : I (fun _ => false) a w.drew)
    (step : ∀ (f : Nat → Bool) (a : Act) (w : World) (i : Nat) (o : Oper), i < n → l[i]? = some o → f i = false → (∀ e ∈ o.after, Region.binds .any e = true → f e.on = true) → I f a w →
      ∀ K : Act → World → Prop, (∀ a' w', I (upF f i) a' w' → K a' w') → if Region.wanted o (yielded l.toArray a.tmps) = true then o.wp P a w K Q else K (a.put o.dst undef) w)
    (tail : ∀ (f : Nat → Bool) (a : Act) (w : World), (∀ j, j < n → f j = true) → I f a w → wpList P l.toArray Q (l.drop n) a w) : (Code.region id l.toArray true).wp P Q a w := by
  simp only [headB, Bool.and_eq_true, decide_eq_true_eq] at hB
  obtain ⟨⟨⟨⟨hb, hn⟩, hs⟩, hc⟩, hseq⟩ := hB
  have hsz : l.toArray.size = l.length := by simp
  have key : ∀ (m : Nat) (listed : Array Bool) (a : Act) (w : World), HeadInv .any l.toArray n listed → cntF n (fun j => listed.getD j false) = m → I (fun j => listed.getD j false) a w →
      wpAny P .any l.toArray Q (m + (l.toArray.size - n)) listed a w := by
    intro m
    induction m with
    | zero =>
      intro listed a w inv hcnt hI
      have hall := cntF_zero n _ hcnt
      have hle := listed_eq inv.size hall inv.tail
      have hdl : (l.drop n).length = l.toArray.size - n := by simp
      rw [Nat.zero_add, ← hdl]
      refine wpAny_of_seq (md := .any) (l.drop n) n listed a w (fun j => by simp [List.getElem?_drop]) ?_ (tail _ a w hall hI)
      rw [hdl, hle]; exact hseq
    | succ m ih =>
      intro listed a w inv hcnt hI
      obtain ⟨j, hj, hjf, hjl⟩ := cntF_least n _ (by rw [hcnt]; omega)
      have hjs : j < listed.size := by rw [inv.size]; omega
      have hjt : listed.getD j true = false := getD_in hjs hjf
      have hjn : j < l.toArray.size := by omega
      have hready : j ∈ Region.ready .any l.toArray listed := by
        refine mem_ready.2 ⟨hjt, l.toArray[j], by simp, fun e he hbe => ?_⟩
        have h1 := List.all_eq_true.1 hb j (List.mem_range.2 hjn)
        rw [Array.getElem?_eq_getElem hjn] at h1
        have h2 := Array.all_eq_true_iff_forall_mem.1 h1 e he
        rw [hbe] at h2
        exact hjl _ (of_decide_eq_true (by simpa using h2))
      rw [show m + 1 + (l.toArray.size - n) = (m + (l.toArray.size - n)) + 1 by omega]
      refine ⟨(fun h => by rw [h] at hready; cases hready), fun i hi => ?_⟩
      have hin : i < n := by
        rcases Nat.lt_or_ge i n with h | h
        · exact h
        · exact absurd hi (tail_waits hs hc hn inv _ j rfl hj hjt i h)
      obtain ⟨hi1, o, ho, hall⟩ := mem_ready.1 hi
      have hif : listed.getD i false = false := getD_both hi1
      have hupd : (fun k => (listed.setIfInBounds i true).getD k false) = upF (fun k => listed.getD k false) i := by
        funext k
        by_cases e : k = i
        · subst e
          have : k < listed.size := by rw [inv.size]; omega
          simp [upF, this]
        · rw [getD_set_ne false (fun h => e h.symm)]; simp [upF, e]
      have inv' := inv.set hi hin
      have hcnt' : cntF n (fun k => (listed.setIfInBounds i true).getD k false) = m := by
        rw [hupd]
        have := cntF_up n i (fun k => listed.getD k false) hin hif
        omega
      refine wpOp_step ho (fun K' hK => ?_)
      exact step _ a w i o hin (by simpa using ho) hif hall hI K' (fun a' w' h' => hK _ _ (ih _ _ _ inv' hcnt' (by rw [hupd]; exact h')))
  refine wp_region_any hm ?_
  have inv0 : HeadInv .any l.toArray n (Array.replicate l.toArray.size false) :=
    ⟨by simp, fun j oj _ hl => (by rw [getD_replicate_false] at hl; cases hl), fun t _ ht => getD_in (by simpa using ht) (getD_replicate_false _ _)⟩
  have hf0 : (fun j => (Array.replicate l.toArray.size false).getD j false) = fun _ => false := by funext j; exact getD_replicate_false _ _
  have hc0 : ∀ k, cntF k (fun _ => false) = k := by
    intro k; induction k with
    | zero => rfl
    | succ k ih => simp only [cntF]; rw [ih]; rfl
  have := key n _ a w.drew inv0 (by rw [hf0]; exact hc0 n) (by rw [hf0]; exact h0)
  rw [show n + (l.toArray.size - n) = l.toArray.size by omega] at this
  exact this
end Go.Proofs.YtemkpihfenokmaaDoor
