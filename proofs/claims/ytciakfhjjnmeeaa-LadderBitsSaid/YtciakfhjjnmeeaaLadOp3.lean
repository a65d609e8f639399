/- A cell of one of the call's own rows written; the highest bit of a key; the seven weak keys as numbers. -/
import Derived.Test.YtciakfhjjnmeeaaWeak
import Derived.Test.YtciakfhjjnmeeaaRefD
import Derived.Test.YtciakfhjjnmeeaaWalkMeets
namespace Go.Proofs.Ytciakfhjjnmeeaa
open Go.RowKit Nt Edw

section
variable {b w : World} {L : List (Nat × Nat × (Value → Prop))}
theorem Own.cell (h : Own b L w) {i g n : Nat} {V V' : Value → Prop} (hi : L[i]? = some (g, n, V)) (k : Nat) (v : Value) (hV : ∀ cs : Array Value, cs.size = n → V (.agg cs) → V' (.agg (cs.setIfInBounds k v))) : Own b (L.set i (g, n, V')) (w.setCell ⟨g, k, none⟩ v) := by
  obtain ⟨cs, t, h1, h2, h3⟩ := h.get hi
  have hm : (L.set i (g, n, V')).map (·.1) = L.map (·.1) := (h.put hi (V' := V') (cs.setIfInBounds k v) (by simpa using h2) (hV cs h2 h3)).2.1 |> fun _ => by
    rw [List.map_set]
    refine List.ext_getElem? fun j => ?_
    rw [List.getElem?_set]
    split
    · rename_i e
      subst e
      have : i < (L.map (·.1)).length := by rw [List.length_map]; exact (List.getElem?_eq_some_iff.1 hi).1
      simp only [this, if_true]
      rw [List.getElem?_map, hi]; rfl
    · rfl
  refine ⟨h.1.setCell (h.ge hi) _, by rw [hm]; exact h.2.1, fun r hr => ?_⟩
  obtain ⟨j, hj, hjr⟩ := List.getElem_of_mem hr
  rw [List.length_set] at hj
  by_cases e : i = j
  · subst e
    rw [List.getElem_set_self] at hjr
    subst hjr
    exact ⟨h.ge hi, _, t, row_set h1, by simpa using h2, hV cs h2 h3⟩
  · rw [List.getElem_set_ne e] at hjr
    subst hjr
    obtain ⟨q1, c, t', q2, q3, q4⟩ := h.2.2 _ (List.getElem_mem hj)
    refine ⟨q1, c, t', row_set_other q2 (fun e2 => e ?_), q3, q4⟩
    have hi' : i < L.length := (List.getElem?_eq_some_iff.1 hi).1
    have hg : L[i].1 = g := by rw [(List.getElem?_eq_some_iff.1 hi).2]
    have hnd := h.2.1
    have := List.getElem_inj (xs := L.map (·.1)) (i := j) (j := i) (h₀ := by simpa using hj) (h₁ := by simpa using hi') hnd
    exact (this.1 (by simpa [hg] using e2)).symm
/-- .. by value. -/
theorem Own.byte (h : Own b L w) {i g n : Nat} {l : List Int} (hi : L[i]? = some (g, n, (· = .agg (vals l)))) (k : Nat) (x : Int) : Own b (L.set i (g, n, (· = .agg (vals (l.set k x))))) (w.setCell ⟨g, k, none⟩ (.int .u8 x)) :=
  h.cell hi k _ fun cs _ hcs => by
    injection hcs with hcs
    subst hcs
    exact congrArg Value.agg (vals_set l k x)
theorem Own.bytes (h : Own b L w) {i g n : Nat} {l : List Int} (hi : L[i]? = some (g, n, (· = .agg (vals l)))) : ∃ t, w.heap[g]? = some (.cells (vals l) t (0, 0)) := by
  obtain ⟨cs, t, h1, _, h3⟩ := h.get hi
  injection h3 with h3
  subst h3
  exact ⟨t, h1⟩
end

theorem nth_set_self (l : List Int) (k : Nat) (y : Int) (h : k < l.length) : nth (l.set k y) k = y := by simp [nth, h]
/-- The highest bit does not count. -/
theorem numF_top (l : List Int) (y : Int) (hl : l.length = 32) (hb : Byt l) (hy : 0 ≤ y ∧ y < 256) (h : y % 128 = nth l 31 % 128) : numF (l.set 31 y) = numF l := by
  have hb2 : Byt (l.set 31 y) := by
    intro x hx
    rcases List.mem_or_eq_of_mem_set hx with h' | rfl
    · exact hb x h'
    · exact hy
  have e1 := (top_off l hl hb).1
  have e2 := (top_off (l.set 31 y) (by rw [List.length_set, hl]) hb2).1
  rw [nth_set_self l 31 y (by omega), List.set_set, h, e1] at e2
  have h1 := val_numF l hb
  have h2 := val_numF (l.set 31 y) hb2
  rw [← e2, ← h1] at h2
  exact F.ext (Int.ofNat.inj h2)
theorem or128 (x : Int) (h0 : 0 ≤ x) (h1 : x < 256) : (0 ≤ bits .or .u8 x 128 ∧ bits .or .u8 x 128 < 256) ∧ bits .or .u8 x 128 % 128 = x % 128 := by
  obtain ⟨n, rfl⟩ := Int.eq_ofNat_of_zero_le h0
  have h : ∀ n : Fin 256, (0 ≤ bits .or .u8 (n.val : Int) 128 ∧ bits .or .u8 (n.val : Int) 128 < 256) ∧ bits .or .u8 (n.val : Int) 128 % 128 = (n.val : Int) % 128 := by decide +kernel
  exact h ⟨n, by omega⟩
theorem xor_top (x : Int) (h0 : 0 ≤ x) (h1 : x < 256) : (0 ≤ bits .xor .u8 x 128 ∧ bits .xor .u8 x 128 < 256) ∧ bits .xor .u8 x 128 % 128 = x % 128 := by
  obtain ⟨n, rfl⟩ := Int.eq_ofNat_of_zero_le h0
  have h : ∀ n : Fin 256, (0 ≤ bits .xor .u8 (n.val : Int) 128 ∧ bits .xor .u8 (n.val : Int) 128 < 256) ∧ bits .xor .u8 (n.val : Int) 128 % 128 = (n.val : Int) % 128 := by decide +kernel
  exact h ⟨n, by omega⟩
theorem byt_set {l : List Int} (hb : Byt l) (k : Nat) (y : Int) (hy : 0 ≤ y ∧ y < 256) : Byt (l.set k y) := by
  intro x hx
  rcases List.mem_or_eq_of_mem_set hx with h' | rfl
  · exact hb x h'
  · exact hy

def byt (l : List Int) : Bool := l.all fun x => decide (0 ≤ x ∧ x < 256)
theorem byt_of {l : List Int} (h : byt l = true) : Byt l := fun x hx => of_decide_eq_true (List.all_eq_true.1 h x hx)
theorem weak_facts (r : Int) (h0 : 0 ≤ r) (h7 : r < 7) : (weakL r).length = 32 ∧ Byt (weakL r) ∧ ∀ V, V < 2 ^ 255 → V % 8 = 0 → prod V (numF (weakL r)) = 0 := by
  have hr : r = 0 ∨ r = 1 ∨ r = 2 ∨ r = 3 ∨ r = 4 ∨ r = 5 ∨ r = 6 := by omega
  rcases hr with rfl | rfl | rfl | rfl | rfl | rfl | rfl
  · exact ⟨rfl, byt_of (by decide), fun V h h8 => by rw [show numF (weakL 0) = 0 by decide +kernel]; exact prod_zero V (by omega)⟩
  · exact ⟨rfl, byt_of (by decide), fun V h h8 => by rw [show numF (weakL 1) = 1 by decide +kernel]; exact Edw.weak_one V h h8⟩
  · exact ⟨rfl, byt_of (by decide), fun V h h8 => by rw [show numF (weakL 2) = -1 by decide +kernel]; exact Edw.weak_neg V h h8⟩
  · exact ⟨rfl, byt_of (by decide), fun V h h8 => by rw [show numF (weakL 3) = 0 by decide +kernel]; exact prod_zero V (by omega)⟩
  · exact ⟨rfl, byt_of (by decide), fun V h h8 => by rw [show numF (weakL 4) = 1 by decide +kernel]; exact Edw.weak_one V h h8⟩
  · exact ⟨rfl, byt_of (by decide), fun V h h8 => by rw [show numF (weakL 5) = 325606250916557431795983626356110631294008115727848805560023387167927233504 by decide +kernel]; exact Edw.weak_five V h h8⟩
  · exact ⟨rfl, byt_of (by decide), fun V h h8 => by rw [show numF (weakL 6) = 39382357235489614581723060781553021112529911719440698176882885853963445705823 by decide +kernel]; exact Edw.weak_six V h h8⟩
end Go.Proofs.Ytciakfhjjnmeeaa
