/- Slices of slices of bytes that the call owns: append as a law. -/
import Derived.Test.YtmochmpamgfboaaDoorPutC
namespace Go.Proofs.YtmochmpamgfboaaDoor
open Go.RowKit
abbrev Row1 := Option Addr × Nat × List Int
def rowV (r : Row1) : Value := .slice r.1 r.2.2.length r.2.1
/-- Bytes behind a slice that is an element of a list of such. -/
def El1 (w : World) (r : Row1) : Prop := BytesIn w r.1 r.2.2 ∧ (r.1 = none → r.2.1 = 0) ∧ ∀ a, r.1 = some a → a.block < w.heap.size
/-- v is a slice of the call's own, of these slices; none of them lies in v's own block. -/
def RowsOwn (w : World) (B : Nat) (v : Value) (vs : List Row1) : Prop := w.ownsRow B 26 1 v vs.length (vs.map rowV) ∧ ∀ r ∈ vs, El1 w r ∧ ∀ a, r.1 = some a → some a.block ≠ v.ownBlock
theorem rowsOwn_nil (w : World) (B : Nat) : RowsOwn w B (.slice none 0 0) [] := ⟨World.ownsRow_nil w B _ 1, fun r hr => by cases hr⟩
theorem El1.far {w w' : World} {r : Row1} {row : Option Nat} (h : El1 w r) (hg : w.grownBy w' row) (hne : ∀ a, r.1 = some a → some a.block ≠ row) : El1 w' r :=
  ⟨h.1.far hg hne, h.2.1, fun a ha => Nat.lt_of_lt_of_le (h.2.2 a ha) hg.size⟩
theorem El1.under {w w' : World} {r : Row1} (h : El1 w r) (hb : Below w.heap.size w w') : El1 w' r := h.far (grown_of_below hb none) (fun _ _ h => by cases h)
theorem RowsOwn.under {w w' : World} {B : Nat} {v : Value} {vs : List Row1} (h : RowsOwn w B v vs) (hb : Below w.heap.size w w') : RowsOwn w' B v vs :=
  ⟨World.ownsRow.kept h.1 (grown_of_below hb none) (by cases v.ownBlock <;> simp), fun r hr => ⟨(h.2 r hr).1.under hb, (h.2 r hr).2⟩⟩
theorem RowsOwn.lt {w : World} {B : Nat} {v : Value} {vs : List Row1} (h : RowsOwn w B v vs) : ∀ k, v.ownBlock = some k → B ≤ k ∧ k < w.heap.size := World.ownsRow.lt h.1
theorem Bts.el {w : World} {B : Nat} {v : Value} {l : List Int} (h : Bts w B v l) : ∃ p c, v = .slice p l.length c ∧ El1 w (p, c, l) ∧ ∀ a, p = some a → v.ownBlock = some a.block := by
  obtain ⟨p, c, rfl, h1, h2, h3, _⟩ := h.open
  exact ⟨p, c, rfl, ⟨h1, h2, fun a ha => (h.lt _ (h3 a ha).1).2⟩, fun a ha => (h3 a ha).1⟩
theorem RowsOwn.open {w : World} {B : Nat} {v : Value} {vs : List Row1} (h : RowsOwn w B v vs) : ∃ p c, v = .slice p vs.length c ∧ RowsIn w p vs ∧ (p = none → c = 0) := by
  rcases h.1.2 with ⟨rfl, h0⟩ | ⟨g, c, cur, rfl, hb, hg, hnc, hcm, hcs, htk⟩
  · obtain rfl : vs = [] := List.eq_nil_of_length_eq_zero h0
    exact ⟨none, 0, rfl, ⟨fun k r hr => by simp at hr, fun r hr => by cases hr⟩, fun _ => rfl⟩
  · refine ⟨_, c, rfl, ⟨fun k r hr => ⟨_, rfl, (Array.getElem?_eq_some_iff.1 hg).1, ?_⟩, fun r hr => ⟨(h.2 r hr).1.1, (h.2 r hr).1.2.1⟩⟩, fun h => by cases h⟩
    rw [add_lit, cell_of_row w g k cur _ (0, 0) hg]
    have hk : k < vs.length := (List.getElem?_eq_some_iff.1 hr).1
    have e : (vs.map rowV)[k]? = some (rowV r) := by rw [List.getElem?_map, hr]; rfl
    rw [← htk, List.getElem?_take, if_pos (by omega)] at e
    simpa [rowV] using e
theorem slice_info : ∃ i, Tryd.prog.info? 26 = some i ∧ i.zero = some (.slice none 0 0) ∧ i.size = 1 ∧ i.bytes = 24 := by
  obtain ⟨ie, hie, hsz⟩ := Option.map_eq_some_iff.1 (show (Tryd.prog.info? 26).map (fun i => (i.zero, i.size, i.bytes)) = some (some (.slice none 0 0), 1, 24) by kernel_rfl)
  exact ⟨ie, hie, by simpa using hsz⟩
section
variable {o : Oper} {w b : World} {a : Act} {Q : Exit → Act → World → Prop} {ops : Array Oper} {rest : List Oper}
/-- append(v, r), the literal laid just before. -/
theorem wpList_appR {v : Value} {vs : List Row1} (r : Row1) (x y : Operand) (hgd : o.guard = none) (ho : o.op = .call { callee := .builtin .append, args := #[x, y], argTypes := #[40, 40] }) (hx : a.eval x = v) (hy : a.eval y = .slice (some ⟨w.heap.size, 0, none⟩) 1 1)
    (h : Below b.heap.size b w) (hv : RowsOwn w b.heap.size v vs) (hr : El1 w r) (hfar : ∀ a, r.1 = some a → some a.block ≠ v.ownBlock) (hbig : vs.length + 1 ≤ 4398046511104)
    (hK : ∀ v' w', RowsOwn w' b.heap.size v' (vs ++ [r]) → Below b.heap.size b w' → w.grownBy w' v.ownBlock → (v'.ownBlock = v.ownBlock ∨ ∃ k, v'.ownBlock = some k ∧ w.heap.size ≤ k) → wpList Tryd.prog ops Q rest (a.put o.dst v') w') : wpList Tryd.prog ops Q (o :: rest) a (w.alloc (.cells #[rowV r] 26)) := by
  obtain ⟨ie, hie, hz, hs, hb⟩ := slice_info
  have hsz : w.heap.size ≤ (w.alloc (.cells #[rowV r] 26)).heap.size := by simp
  obtain ⟨v', w', h3, h4, h5, _, h6⟩ := run_append_own_at (P := Tryd.prog) (w.alloc (.cells #[rowV r] 26)) b.heap.size 40 o.type 26 ie (.slice none 0 0) 1 24 Tryd.underlying40 hie hz hs hb rfl (by decide) v vs.length _ (World.ownsRow.alloc hv.1 _) ⟨w.heap.size, 0, none⟩ 1 1 [rowV r] rfl (fun j u hj => by
    rw [add_lit, cell_of_row _ _ j _ _ _ (heap_alloc_new w _)]
    simpa using hj) (by simp [rowV, Value.oneCell']) (by simp only [maxLen]; omega) (by omega) (Nat.le_trans h.size hsz)
  have h5' : w.grownBy w' v.ownBlock := ⟨h5.os, h5.tape, h5.output, Nat.le_trans hsz h5.size, fun k hk hne => (h5.block k (Nat.lt_of_lt_of_le hk hsz) hne).trans (Below.heap_alloc w _ k hk)⟩
  have h7 : v'.ownBlock = v.ownBlock ∨ ∃ k, v'.ownBlock = some k ∧ w.heap.size ≤ k := h6.imp id fun e => ⟨_, e, hsz⟩
  have hne : ∀ q : Row1, El1 w q → (∀ a, q.1 = some a → some a.block ≠ v.ownBlock) → El1 w' q ∧ ∀ a, q.1 = some a → some a.block ≠ v'.ownBlock := fun q hq hf => ⟨hq.far h5' hf, fun a ha e => by
    rcases h7 with h7 | ⟨k, h7, hk⟩
    · exact hf a ha (e.trans h7)
    · rw [h7] at e
      injection e with e
      have := hq.2.2 a ha
      omega⟩
  refine wpList_step fun K hKK => if_always hgd (wp_append_run x y _ ho hx hy h3 (hKK _ _ (hK v' w' ⟨by rw [List.length_append, List.map_append]; exact h4, fun q hq => ?_⟩ (h.grown h5' h.size fun k hk => (hv.lt k hk).1) h5' h7)))
  rcases List.mem_append.1 hq with hq | hq
  · exact hne q (hv.2 q hq).1 (hv.2 q hq).2
  · simp only [List.mem_singleton] at hq
    subst hq
    exact hne q hr hfar
end
end Go.Proofs.YtmochmpamgfboaaDoor
