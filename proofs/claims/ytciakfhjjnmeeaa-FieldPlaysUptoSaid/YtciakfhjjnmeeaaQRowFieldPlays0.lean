/- Texts of this proof's own, one behind the other. No condition. -/
import Derived.Test.YtciakfhjjnmeeaaBa0
import Derived.Test.YtciakfhjjnmeeaaBa1
import Derived.Test.YtciakfhjjnmeeaaBa2
import Derived.Test.YtciakfhjjnmeeaaBa3
import Derived.Test.YtciakfhjjnmeeaaBa4
import Derived.Test.YtciakfhjjnmeeaaBa5
import Derived.Deep.AppendLies
import Derived.Deep.MidRow
import Derived.Great.BuildSlice
import Derived.Laws.AppendOwn
import Derived.Deep.LoopGhost
namespace Go.Proofs.Ytciakfhjjnmeeaa

/-- The cells xs are rows of k cells each, the i-th related to the i-th of l. -/
def RowsOf {α : Type} (k : Nat) (R : α → Value → Prop) : List Value → List α → Prop
  | xs, [] => xs = []
  | xs, a :: l => ∃ cs ys : List Value, xs = cs ++ ys ∧ cs.length = k ∧ R a (.agg cs.toArray) ∧ RowsOf k R ys l

theorem RowsOf.nil {α : Type} {k : Nat} {R : α → Value → Prop} : RowsOf k R [] ([] : List α) := rfl
theorem RowsOf.one {α : Type} {k : Nat} {R : α → Value → Prop} {cs : List Value} {a : α} (h : cs.length = k) (hR : R a (.agg cs.toArray)) : RowsOf k R cs [a] := ⟨cs, [], by simp, h, hR, rfl⟩
theorem RowsOf.len {α : Type} {k : Nat} {R : α → Value → Prop} : ∀ {l : List α} {xs : List Value}, RowsOf k R xs l → xs.length = l.length * k
  | [], xs, h => by rw [show xs = [] from h]; simp
  | a :: l, xs, ⟨cs, ys, e, hc, _, h⟩ => by rw [e, List.length_append, hc, h.len, List.length_cons, Nat.add_mul]; omega
theorem RowsOf.append {α : Type} {k : Nat} {R : α → Value → Prop} {m : List α} {ys : List Value} (h2 : RowsOf k R ys m) : ∀ {l : List α} {xs : List Value}, RowsOf k R xs l → RowsOf k R (xs ++ ys) (l ++ m)
  | [], xs, h => by rw [show xs = [] from h]; exact h2
  | a :: l, xs, ⟨cs, zs, e, hc, hR, h⟩ => ⟨cs, zs ++ ys, by rw [e, List.append_assoc], hc, hR, RowsOf.append h2 h⟩
theorem RowsOf.get {α : Type} {k : Nat} {R : α → Value → Prop} : ∀ {l : List α} {xs : List Value} {i : Nat} {a : α}, RowsOf k R xs l → l[i]? = some a → ∃ cs : List Value, cs.length = k ∧ R a (.agg cs.toArray) ∧ ∀ j, j < k → xs[i * k + j]? = cs[j]?
  | [], _, _, _, _, h2 => by simp at h2
  | b :: l, xs, 0, a, ⟨cs, ys, e, hc, hR, _⟩, h2 => by
    obtain rfl : b = a := by simpa using h2
    exact ⟨cs, hc, hR, fun j hj => by rw [e, Nat.zero_mul, Nat.zero_add, List.getElem?_append_left (by omega)]⟩
  | b :: l, xs, i + 1, a, ⟨cs, ys, e, hc, _, h⟩, h2 => by
    obtain ⟨ds, hd, hR, hg⟩ := h.get (i := i) (a := a) (by simpa using h2)
    exact ⟨ds, hd, hR, fun j hj => by
      rw [e, List.getElem?_append_right (by rw [hc, Nat.add_mul]; omega), ← hg j hj, hc]
      congr 1
      rw [Nat.add_mul]; omega⟩
end Go.Proofs.Ytciakfhjjnmeeaa

namespace Go.Proofs.Ytciakfhjjnmeeaa
section
variable {P : Program} {o : Oper} {a : Act} {w : World} {Q : Exit → Act → World → Prop} {K : Act → World → Prop}
/-- A literal of one part. -/
theorem op_lit1 (t e : TypeId) (x : Operand) (ho : o.op = .buildSlice t 1 #[(0, x)]) {d : Nat} (hd : o.dst = some d) (ie : TypeInfo) (z : Value) (k : Nat) (hk : 0 < k ∧ k ≤ 16777216)
    (hu : P.underlying t = some (.slice e)) (hie : P.info? e = some ie) (hz : ie.zero = some z) (hsz : ie.size = k) (cs : Array Value) (hx : a.eval x = .agg cs) (hcs : cs.size = k)
    (h : K (a.put (some d) (.slice (some ⟨w.heap.size, 0, none⟩) 1 1)) (w.alloc (.cells cs e))) : o.wp P a w K Q := by
  subst hsz
  refine Go.wp_buildSlice t e 1 #[(0, x)] ho cs ie z hu hie hz (by omega) (by omega) ?_ (by rw [hd]; exact h)
  have hf := Great.fill_whole (s := ie.size) hk.1 [.agg cs] ((Array.range (1 * ie.size)).map (z.cells[· % z.cells.size]!)) (by intro v hv; obtain rfl := List.mem_singleton.1 hv; exact hcs) (by simp)
  have hc : (Value.agg cs).cells = cs := rfl
  simpa [hx, hc] using hf
end
end Go.Proofs.Ytciakfhjjnmeeaa

namespace Go.Proofs.Ytciakfhjjnmeeaa
open Go.RowKit
section
variable {P : Program} {o : Oper} {w b : World} {Q : Exit → Act → World → Prop} {L : List (Nat × Nat × (Value → Prop))} {ops : Array Oper} {rest : List Oper} {df : List Deferred} {tm : Array Value}
theorem tl_lit1 (k : Nat) (t e : TypeId) (x : Operand) (hgd : o.guard = none) (ho : o.op = .buildSlice t 1 #[(0, x)]) (d : Nat) (hd : o.dst = some d) (hds : d < tm.size) (hk : 0 < k ∧ k ≤ 16777216)
    (hu : P.underlying t = some (.slice e)) (hie : (P.info? e).map (·.size) = some k) (hz : ((P.info? e).bind (·.zero)).isSome = true) (v : Value) (hx : Act.eval ⟨tm, df⟩ x = v) {V : Value → Prop} (hv : V v) (hvc : ∀ v, V v → ∃ cs, v = .agg cs ∧ cs.size = k ∧ cs.all (·.oneCell') = true) (h : Own b L w)
    (hK : ∀ g t' w', Own b (L ++ [(g, k, V)]) w' → t'.size = tm.size → t'[d]? = some (.slice (some ⟨g, 0, none⟩) 1 1) → (∀ j, j ≠ d → t'[j]? = tm[j]?) → wpList P ops Q rest ⟨t', df⟩ w') : wpList P ops Q (o :: rest) ⟨tm, df⟩ w := by
  obtain ⟨cs, rfl, h2, h3⟩ := hvc v hv
  obtain ⟨ie, h4, hsz⟩ := Option.map_eq_some_iff.1 hie
  rw [h4, Option.bind_some] at hz
  obtain ⟨z, h5⟩ := Option.isSome_iff_exists.1 hz
  refine wpList_step fun K hKK => if_always hgd ?_
  refine op_lit1 t e x ho hd ie z k hk hu h4 h5 hsz cs hx h2 (hKK _ _ ?_)
  refine hK w.heap.size (tm.setIfInBounds d _) _ ?_ (by simp) (by simp [hds]) (fun j hj => by rw [Array.getElem?_setIfInBounds, if_neg (fun e => hj e.symm)])
  exact (h.keep ((Below.refl _ _).alloc (Nat.le_refl _) _)).add (h.1.size) (fun r hr => Nat.ne_of_lt (h.lt r hr)) ⟨cs, e, heap_alloc_new w _, h2, hv⟩
end
end Go.Proofs.Ytciakfhjjnmeeaa

namespace Go.Proofs.Ytciakfhjjnmeeaa
open Go.RowKit

/-- One cell by value. -/
def CellT (P : Program) (ty : TypeId) : Prop :=
  ∃ d, P.underlying ty = some d ∧ (match d with | .struct _ | .array _ _ => false | _ => true) = true

theorem run_load_cell {P : Program} {w : World} {ty : TypeId} (hT : CellT P ty) {ad : Addr} {v : Value} (h : w.cell? ad = some v) : (Instr.loadAt ty (.pointer (some ad))).run P w = .ok v w := by
  obtain ⟨d, h1, h2⟩ := hT
  have hagg : (isAgg ty).run P w = .ok false w := by
    unfold isAgg
    rw [Sem.run_bind, run_underlying h1 w]
    cases d <;> simp_all
  simp only [Instr.loadAt, Instr.sureAddr, loadVar, Sem.run_bind, Sem.run_pure, Result.andThen_ok, hagg]
  go_simp

section
variable {P : Program} {o : Oper} {a : Act} {w b : World} {Q : Exit → Act → World → Prop} {V : Value → Prop} {d : Nat} {K : Act → World → Prop} {L : List (Nat × Nat × (Value → Prop))}
/-- The address of a field (or of a place of an array). -/
theorem op_field (S : TypeId) (x : Operand) (f : Nat) (u v : Value) (ho : o.op = .fieldAddr S x f) (hd : o.dst = some d) (hx : a.eval x = u) (hrun : ∀ w, (Instr.fieldAt S u f).run P w = .ok v w)
    (hK : ∀ x w', x = v → Below w.heap.size w w' → K (a.put (some d) x) w') : o.wp P a w K Q := by
  refine op_val (V := (· = v)) v hd ?_ rfl hK
  unfold execOp; rw [ho]
  show ((do let z ← Instr.fieldAt S (a.eval x) f; pure (Next.value z)) : Sem Next).run P w = _
  rw [hx, Sem.run_bind, hrun w]
  rfl
theorem op_cell {ty : TypeId} (hT : CellT P ty) (x : Operand) (ad : Addr) (ho : o.op = .load ty x) (hd : o.dst = some d) (hx : a.eval x = .pointer (some ad)) (v : Value) (h : w.cell? ad = some v)
    (hK : ∀ x w', x = v → Below w.heap.size w w' → K (a.put (some d) x) w') : o.wp P a w K Q := by
  refine op_val (V := (· = v)) v hd ?_ rfl hK
  unfold execOp; rw [ho]
  show ((do let z ← Instr.loadAt ty (a.eval x); pure (Next.value z)) : Sem Next).run P w = _
  rw [hx, Sem.run_bind, run_load_cell hT h]
  rfl
theorem op_cell_own {ty : TypeId} (hT : CellT P ty) (x : Operand) (g j : Nat) (ho : o.op = .load ty x) (hd : o.dst = some d) (hx : a.eval x = .pointer (some ⟨g, j, none⟩)) (h : Own b L w) (i n : Nat) (c : Array Value) (hi : L[i]? = some (g, n, (· = .agg c))) (v : Value) (hv : c[j]? = some v)
    (hK : ∀ x w', x = v → Below w.heap.size w w' → K (a.put (some d) x) w') : o.wp P a w K Q := by
  obtain ⟨cs, t, h1, _, h3⟩ := h.get hi
  have h3' : Value.agg cs = .agg c := h3
  injection h3' with h3'
  subst h3'
  exact op_cell hT x ⟨g, j, none⟩ ho hd hx v (by rw [cell_of_row w g j cs t (0, 0) h1]; exact hv) hK
end
section
variable {P : Program} {o : Oper} {a : Act} {w b : World} {Q : Exit → Act → World → Prop} {K : Act → World → Prop} {L : List (Nat × Nat × (Value → Prop))} {ops : Array Oper} {rest : List Oper} {df : List Deferred} {tm : Array Value}
/-- A literal of two parts. -/
theorem op_lit2 (t e : TypeId) (x y : Operand) (ho : o.op = .buildSlice t 2 #[(0, x), (1, y)]) {d : Nat} (hd : o.dst = some d) (ie : TypeInfo) (z : Value) (k : Nat) (hk : 0 < k ∧ k ≤ 8388608)
    (hu : P.underlying t = some (.slice e)) (hie : P.info? e = some ie) (hz : ie.zero = some z) (hsz : ie.size = k) (cs ds : Array Value) (hx : a.eval x = .agg cs) (hy : a.eval y = .agg ds) (hcs : cs.size = k) (hds : ds.size = k)
    (h : K (a.put (some d) (.slice (some ⟨w.heap.size, 0, none⟩) 2 2)) (w.alloc (.cells (cs ++ ds) e))) : o.wp P a w K Q := by
  subst hsz
  refine Go.wp_buildSlice t e 2 #[(0, x), (1, y)] ho (cs ++ ds) ie z hu hie hz (by omega) (by omega) ?_ (by rw [hd]; exact h)
  have hf := Great.fill_whole (s := ie.size) hk.1 [.agg cs, .agg ds] ((Array.range (2 * ie.size)).map (z.cells[· % z.cells.size]!)) (by
    intro v hv
    rcases List.mem_cons.1 hv with rfl | hv
    · exact hcs
    · obtain rfl := List.mem_singleton.1 hv; exact hds) (by simp)
  have hc : (Value.agg cs).cells = cs := rfl
  have hc2 : (Value.agg ds).cells = ds := rfl
  have e : (cs.toList ++ ds.toList).toArray = cs ++ ds := by apply Array.toList_inj.1; simp
  rw [← e]
  simpa [hx, hy, hc, hc2] using hf
theorem tl_lit2 (k : Nat) (t e : TypeId) (x y : Operand) (hgd : o.guard = none) (ho : o.op = .buildSlice t 2 #[(0, x), (1, y)]) (d : Nat) (hd : o.dst = some d) (hds : d < tm.size) (hk : 0 < k ∧ k ≤ 8388608)
    (hu : P.underlying t = some (.slice e)) (hie : (P.info? e).map (·.size) = some k) (hz : ((P.info? e).bind (·.zero)).isSome = true) (c1 c2 : Array Value) (hx : Act.eval ⟨tm, df⟩ x = .agg c1) (hy : Act.eval ⟨tm, df⟩ y = .agg c2)
    (h1 : c1.size = k) (h2 : c2.size = k) (h : Own b L w)
    (hK : ∀ g t' w', Own b (L ++ [(g, 2 * k, (· = .agg (c1 ++ c2)))]) w' → t'.size = tm.size → t'[d]? = some (.slice (some ⟨g, 0, none⟩) 2 2) → (∀ j, j ≠ d → t'[j]? = tm[j]?) → wpList P ops Q rest ⟨t', df⟩ w') : wpList P ops Q (o :: rest) ⟨tm, df⟩ w := by
  obtain ⟨ie, h4, hsz⟩ := Option.map_eq_some_iff.1 hie
  rw [h4, Option.bind_some] at hz
  obtain ⟨z, h5⟩ := Option.isSome_iff_exists.1 hz
  refine wpList_step fun K hKK => if_always hgd ?_
  refine op_lit2 t e x y ho hd ie z k hk hu h4 h5 hsz c1 c2 hx hy h1 h2 (hKK _ _ ?_)
  refine hK w.heap.size (tm.setIfInBounds d _) _ ?_ (by simp) (by simp [hds]) (fun j hj => by rw [Array.getElem?_setIfInBounds, if_neg (fun e => hj e.symm)])
  exact (h.keep ((Below.refl _ _).alloc (Nat.le_refl _) _)).add (h.1.size) (fun r hr => Nat.ne_of_lt (h.lt r hr)) ⟨c1 ++ c2, e, heap_alloc_new w _, by rw [Array.size_append, h1, h2]; omega, rfl⟩
end
/-- What a call hands back: a slice of rows of k cells, of its own. -/
def Fresh {α : Type} (k : Nat) (R : α → Value → Prop) (l : List α) (w : World) (e : Ending) (w' : World) : Prop :=
  Below w.heap.size w w' ∧ ((l = [] ∧ e = .returned (.slice none 0 0)) ∨ l ≠ [] ∧ ∃ g cs ty, e = .returned (.slice (some ⟨g, 0, none⟩) l.length l.length) ∧ w.heap.size ≤ g ∧ w'.heap[g]? = some (.cells cs ty (0, 0)) ∧ RowsOf k R cs.toList l)
theorem Fresh.one {α : Type} {k : Nat} {R : α → Value → Prop} {x : α} {w w' : World} {L : List (Nat × Nat × (Value → Prop))} {g : Nat} {V : Value → Prop} (i : Nat) (h : Own w L w') (hi : L[i]? = some (g, k, V)) (hV : ∀ v, V v → R x v) : Fresh k R [x] w (.returned (.slice (some ⟨g, 0, none⟩) 1 1)) w' := by
  obtain ⟨cs, t, h1, h2, h3⟩ := h.get hi
  exact ⟨h.1, .inr ⟨by simp, g, cs, t, rfl, h.ge hi, h1, RowsOf.one (by simpa using h2) (hV _ (by simpa using h3))⟩⟩
theorem Fresh.two {α : Type} {k : Nat} {R : α → Value → Prop} {x y : α} {w w' : World} {L : List (Nat × Nat × (Value → Prop))} {g n : Nat} {c1 c2 : Array Value} (i : Nat) (h : Own w L w') (hi : L[i]? = some (g, n, (· = .agg (c1 ++ c2)))) (h1 : c1.size = k) (h2 : c2.size = k) (hx : R x (.agg c1)) (hy : R y (.agg c2)) : Fresh k R [x, y] w (.returned (.slice (some ⟨g, 0, none⟩) 2 2)) w' := by
  obtain ⟨cs, t, e1, e2, e3⟩ := h.get hi
  have e3' : Value.agg cs = .agg (c1 ++ c2) := e3
  injection e3' with e3'
  subst e3'
  exact ⟨h.1, .inr ⟨by simp, g, _, t, rfl, h.ge hi, e1, c1.toList, c2.toList, by simp, by simpa using h1, by simpa using hx, c2.toList, [], by simp, by simpa using h2, by simpa using hy, rfl⟩⟩
end Go.Proofs.Ytciakfhjjnmeeaa

namespace Go.Proofs.Ytciakfhjjnmeeaa
open Go.RowKit

/-- From address ad on lie the cells cs. -/
def CellsAt (w : World) (ad : Addr) (cs : Array Value) : Prop := ∀ j v, cs[j]? = some v → w.cell? (ad.add j) = some v
theorem add_block (a : Addr) (j : Nat) : (a.add j).block = a.block := by unfold Addr.add; split <;> rfl
theorem CellsAt.under {w w' : World} {ad : Addr} {cs : Array Value} {B : Nat} (h : CellsAt w ad cs) (hb : Below B w w') (hlt : ad.block < B) : CellsAt w' ad cs := fun j v hv => by
  rw [← h j v hv]
  exact World.cell?_of_block (by rw [add_block]; exact hb.block _ hlt)
theorem add_lit (g j : Nat) : (⟨g, 0, none⟩ : Addr).add j = ⟨g, j, none⟩ := by unfold Addr.add; split <;> simp_all
theorem add_twice (a : Addr) (i j : Nat) : (a.add i).add j = a.add (i + j) := by
  unfold Addr.add
  by_cases h1 : i = 0 <;> by_cases h2 : j = 0 <;> simp_all
  omega
theorem run_load_at {P : Program} {w : World} {ad : Addr} {ty : TypeId} {n : Nat} {cs : Array Value} (hT : RowT P ty n) (hn : cs.size = n) (h : CellsAt w ad cs) : (Instr.loadAt ty (.pointer (some ad))).run P w = .ok (.agg cs) w := by
  obtain ⟨d, h1, h2, h3⟩ := hT
  subst hn
  have hl : (loadCells ad cs.size).run P w = .ok cs w := run_loadCells_list (P := P) w ad cs.toList (fun j v hv => h j v (by simpa using hv))
  obtain ⟨i, hi, hs⟩ := Option.map_eq_some_iff.1 h3
  have hagg : (isAgg ty).run P w = .ok true w := by
    unfold isAgg
    rw [Sem.run_bind, run_underlying h1 w]
    cases d <;> simp_all
  simp [Instr.loadAt, Instr.sureAddr, loadVar, Sem.run_bind, hagg, sizeOf, typeInfo, hi, hs, hl]

/-- The first rows of a block are those of the list l. -/
def LRow {α : Type} (k : Nat) (R : α → Value → Prop) (l : List α) (v : Value) : Prop := ∃ cs, v = .agg cs ∧ RowsOf k R (cs.toList.take (l.length * k)) l
theorem RowsOf.one_cells {α : Type} {k : Nat} {R : α → Value → Prop} (hone : ∀ u v, R u v → ∃ cs, v = .agg cs ∧ cs.all (·.oneCell') = true) : ∀ {l : List α} {xs : List Value}, RowsOf k R xs l → ∀ u ∈ xs, u.oneCell' = true
  | [], xs, h, u, hu => by rw [show xs = [] from h] at hu; cases hu
  | a :: l, xs, ⟨cs, ys, e, _, hR, h⟩, u, hu => by
    rw [e] at hu
    rcases List.mem_append.1 hu with h1 | h1
    · obtain ⟨ds, e2, h2⟩ := hone _ _ hR
      injection e2 with e2
      subst e2
      rw [Array.all_eq_true] at h2
      obtain ⟨j, hj, rfl⟩ := List.getElem_of_mem h1
      have := h2 j (by simpa using hj)
      rw [List.getElem_toArray] at this
      exact this
    · exact h.one_cells hone u h1

section
variable {P : Program} {o : Oper} {a : Act} {w b : World} {Q : Exit → Act → World → Prop} {d : Nat} {K : Act → World → Prop} {L : List (Nat × Nat × (Value → Prop))}
theorem op_ld_at (n : Nat) {ty : TypeId} (hT : RowT P ty n) (x : Operand) (ho : o.op = .load ty x) (hd : o.dst = some d) (ad : Addr) (hx : a.eval x = .pointer (some ad)) (cs : Array Value) (hn : cs.size = n) (h : CellsAt w ad cs)
    (hK : ∀ x w', x = .agg cs → Below w.heap.size w w' → K (a.put (some d) x) w') : o.wp P a w K Q := by
  refine op_val (V := (· = .agg cs)) (.agg cs) hd ?_ rfl hK
  unfold execOp; rw [ho]
  show ((do let z ← Instr.loadAt ty (a.eval x); pure (Next.value z)) : Sem Next).run P w = _
  rw [hx, Sem.run_bind, run_load_at hT hn h]
  rfl
/-- A place of a slice. -/
theorem op_index (k : Nat) {t : TypeId} (e : TypeId) (hu : P.underlying t = some (.slice e)) (hie : (P.info? e).map (·.size) = some k) (x y : Operand) (ho : o.op = .indexAddr t x y) (hd : o.dst = some d) (ad : Addr) (n c : Nat) (hx : a.eval x = .slice (some ad) n c)
    (kd : IntKind) (i : Nat) (hy : a.eval y = .int kd i) (hi : i < n)
    (hK : ∀ x w', x = .pointer (some (ad.add (i * k))) → Below w.heap.size w w' → K (a.put (some d) x) w') : o.wp P a w K Q := by
  refine op_val (V := (· = .pointer (some (ad.add (i * k))))) (.pointer (some (ad.add (i * k)))) hd ?_ rfl hK
  obtain ⟨ie, h4, hsz⟩ := Option.map_eq_some_iff.1 hie
  unfold execOp; rw [ho]
  show ((do let z ← Instr.indexAt t (a.eval x) (a.eval y); pure (Next.value z)) : Sem Next).run P w = _
  rw [hx, hy]
  have h1 : (0 : Int) ≤ (i : Int) ∧ (i : Int) < (n : Int) := by omega
  have h2 : (i : Int) < (n : Int) := by omega
  have hE : P.elem t = e := by simp [Program.elem, hu]
  have hr := run_indexAt_slice (P := P) w t ad n c kd (i : Int) (by rw [hE]; exact hu)
  rw [Sem.run_bind, hr, if_pos h1, hE]
  simp [sizeOf, typeInfo, h4, hsz]
/-- The length of a slice. -/
theorem op_len (x : Operand) (t e : TypeId) (hu : P.underlying t = some (.slice e)) (ho : o.op = .call { callee := .builtin .len, args := #[x], argTypes := #[t] }) (hd : o.dst = some d) (p : Option Addr) (n c : Nat) (hx : a.eval x = .slice p n c)
    (hK : ∀ x w', x = .int .i64 n → Below w.heap.size w w' → K (a.put (some d) x) w') : o.wp P a w K Q := by
  have hl := run_len_slice (P := P) w t o.type p n c (by rw [show P.elem t = e by simp [Program.elem, hu]]; exact hu)
  refine op_val (V := (· = .int .i64 n)) (.int .i64 n) hd ?_ rfl hK
  unfold execOp
  simp only [ho, resolve, invoke, builtin, Sem.run_bind, Sem.run_pure, Result.andThen_ok, List.map_toArray, List.map_cons, List.map_nil, hx, hl]
  rfl
theorem op_ld_list {α : Type} {R : α → Value → Prop} {l : List α} (n : Nat) {ty : TypeId} (hT : RowT P ty n) (x : Operand) (ho : o.op = .load ty x) (hd : o.dst = some d) (g j : Nat) (hx : a.eval x = .pointer (some ((⟨g, 0, none⟩ : Addr).add (j * n)))) (h : Own b L w) (i N : Nat) (hi : L[i]? = some (g, N, LRow n R l))
    (u : α) (hu : l[j]? = some u) (hK : ∀ x w', R u x → Below w.heap.size w w' → K (a.put (some d) x) w') : o.wp P a w K Q := by
  obtain ⟨cs, t, h1, _, cs', e, h3⟩ := h.get hi
  injection e with e
  subst e
  obtain ⟨row, hn, hR, hr⟩ := h3.get hu
  refine op_ld_at n hT x ho hd _ hx row.toArray (by simpa using hn) (fun q v hv => ?_) (fun x w' e => hK x w' (e ▸ hR))
  have hq : q < n := by
    have := (Array.getElem?_eq_some_iff.1 hv).1
    simpa [hn] using this
  have hv' : row[q]? = some v := by simpa using hv
  have hlt : j * n + q < l.length * n := by
    have hj : j < l.length := (List.getElem?_eq_some_iff.1 hu).1
    have : (j + 1) * n ≤ l.length * n := Nat.mul_le_mul_right _ hj
    rw [Nat.add_mul] at this
    omega
  rw [add_twice, add_lit, cell_of_row w g _ cs t (0, 0) h1, ← hv', ← hr q hq, List.getElem?_take, if_pos hlt]
  simp
end
section
variable {b w : World} {L : List (Nat × Nat × (Value → Prop))}
theorem Own.swap (h : Own b L w) {i : Nat} {g n : Nat} {V : Value → Prop} (hg : b.heap.size ≤ g) (hne : ∀ r ∈ L, r.1 ≠ g) (hr : ∃ cs t, w.heap[g]? = some (.cells cs t (0, 0)) ∧ cs.size = n ∧ V (.agg cs)) : Own b (L.set i (g, n, V)) w := by
  refine ⟨h.1, ?_, fun r hr' => ?_⟩
  · rw [List.map_set]
    have hm : ∀ x ∈ L.map (·.1), x ≠ g := fun x hx => by
      obtain ⟨r, hrL, rfl⟩ := List.mem_map.1 hx
      exact hne r hrL
    have hnd := h.2.1
    generalize L.map (·.1) = M at hnd hm
    clear hr hg hne h
    induction M generalizing i with
    | nil => simp
    | cons x M ih =>
      cases i with
      | zero =>
        simp only [List.set_cons_zero]
        exact List.nodup_cons.2 ⟨fun hx => hm g (List.mem_cons_of_mem _ hx) rfl, (List.nodup_cons.1 hnd).2⟩
      | succ i =>
        simp only [List.set_cons_succ]
        refine List.nodup_cons.2 ⟨fun hx => ?_, ih (List.nodup_cons.1 hnd).2 (fun y hy => hm y (List.mem_cons_of_mem _ hy))⟩
        rcases List.mem_or_eq_of_mem_set hx with h1 | h1
        · exact (List.nodup_cons.1 hnd).1 h1
        · exact hm x (List.mem_cons_self ..) h1
  · rcases List.mem_or_eq_of_mem_set hr' with h1 | h1
    · exact h.2.2 r h1
    · subst h1
      exact ⟨hg, hr⟩
end
section
variable {P : Program} (w : World)
/-- append where there is room, whatever type the block bears. -/
theorem run_append_fits2 (t ty e e' : TypeId) (i : TypeInfo) (ht : P.underlying t = some (.slice e)) (hi : P.info? e = some i)
    (g sLen sCap : Nat) (cur : Array Value) (hg : w.heap[g]? = some (.cells cur e' (0, 0)))
    (a : Addr) (m c : Nat) (news : List Value) (hl : news.length = m * i.size) (hnews : ∀ j u, news[j]? = some u → w.cell? (a.add j) = some u) (h1 : ∀ u ∈ news, u.oneCell' = true)
    (hroom : sLen + m ≤ sCap) (hfit : sLen * i.size + news.length ≤ cur.size) :
    (Builtin.append_ #[t, t] ty #[.slice (some ⟨g, 0, none⟩) sLen sCap, .slice (some a) m c]).run P w =
      .ok (.slice (some ⟨g, 0, none⟩) (sLen + m) sCap) (w.setRow g (cur.toList.take (sLen * i.size) ++ news ++ cur.toList.drop (sLen * i.size + news.length)).toArray) := by
  have hf := run_firstCells_some (P := P) w i.size m a m c news hl hnews
  have hst := run_storeCells_at P g (sLen * i.size) e' news 0 cur w hg (by simpa using hfit) h1
  simp only [Nat.add_zero] at hst
  simp [Builtin.append_, run_underlying ht, sizeOf, typeInfo, hi, Builtin.lenOf, hroom, hf, Addr.add_lit, hst]
theorem run_append_none (t ty e : TypeId) (i : TypeInfo) (ht : P.underlying t = some (.slice e)) (hi : P.info? e = some i) (a : Addr) (n c : Nat) (hnc : n ≤ c) :
    (Builtin.append_ #[t, t] ty #[.slice (some a) n c, .slice none 0 0]).run P w = .ok (.slice (some a) n c) w := by
  simp [Builtin.append_, run_underlying ht, sizeOf, typeInfo, hi, Builtin.lenOf, Builtin.firstCells, hnc, storeCells]
end
section
variable {P : Program} {o : Oper} {w b : World} {Q : Exit → Act → World → Prop} {L : List (Nat × Nat × (Value → Prop))} {ops : Array Oper} {rest : List Oper} {df : List Deferred} {tm : Array Value}
theorem wp_append_run {K : Act → World → Prop} {a : Act} {w' : World} {v u v' : Value} (x y : Operand) (t : TypeId) (ho : o.op = .call { callee := .builtin .append, args := #[x, y], argTypes := #[t, t] }) (hx : a.eval x = v) (hy : a.eval y = u)
    (hr : (Builtin.append_ #[t, t] o.type #[v, u]).run P w = .ok v' w') (h : K (a.put o.dst v') w') : o.wp P a w K Q := by
  unfold Oper.wp execOp
  simp only [ho, resolve, invoke, builtin, Sem.run_bind, Sem.run_pure, Result.andThen_ok, List.map_toArray, List.map_cons, List.map_nil, hx, hy, hr]
  exact h
theorem wp_fn3 {K : Act → World → Prop} {a : Act} (f : FuncId) (x y z : Operand) (tys : Array TypeId) (u v s : Value)
    (ho : o.op = .call { callee := .value (.func f), args := #[x, y, z], argTypes := tys }) (hx : a.eval x = u) (hy : a.eval y = v) (hz : a.eval z = s)
    (hf : ∀ (args : Array Value) (w : World), (callFunc f args).run P w = .ok (.enter f args) w) (h : Calls P f #[u, v, s] w fun e w' => ∃ r, e = .returned r ∧ K (a.put o.dst r) w') : o.wp P a w K Q := by
  subst hx; subst hy; subst hz
  have hrun : (execOp a.eval o).run P w = .ok (.enter f #[a.eval x, a.eval y, a.eval z]) w := by
    unfold execOp
    rw [ho]
    have h0 := hf #[a.eval x, a.eval y, a.eval z] w
    have e : a.eval (Operand.func f) = Value.func (.func f) #[] #[] := rfl
    generalize a.eval = ρ at *
    simp [resolve, Deferred.ofValue, invoke, e, h0]
  unfold Oper.wp
  rw [hrun, Oper.upon_enter]
  exact h.mono fun e w' ⟨r, h1, h2⟩ => by subst h1; exact h2
/-- append of rows of the call's own to a list of the call's own: the list lies in its block or in a new one. -/
theorem tlx_append {α : Type} (k B : Nat) {t : TypeId} (e : TypeId) (x y : Operand) (hgd : o.guard = none) (ho : o.op = .call { callee := .builtin .append, args := #[x, y], argTypes := #[t, t] }) (d : Nat) (hd : o.dst = some d) (hds : d < tm.size) (hk : 0 < k)
    (hu : P.underlying t = some (.slice e)) (hie : (P.info? e).map (fun i => (i.size, i.bytes)) = some (k, B)) (hz : ((P.info? e).bind (·.zero)).map (·.cells.size) = some k)
    (R : α → Value → Prop) (l l2 : List α) (g c g2 c2 : Nat) (hx : Act.eval ⟨tm, df⟩ x = .slice (some ⟨g, 0, none⟩) l.length c) (hy : Act.eval ⟨tm, df⟩ y = .slice (some ⟨g2, 0, none⟩) l2.length c2)
    (hc : l.length ≤ c ∧ c ≤ maxLen) (h : Own b L w) (i j N2 : Nat) (hi : L[i]? = some (g, c * k, LRow k R l)) (hj : L[j]? = some (g2, N2, LRow k R l2)) (hone : ∀ u v, R u v → ∃ cs, v = .agg cs ∧ cs.all (·.oneCell') = true)
    (hroom : (l.length + l2.length) * B ≤ 140737488355328) (h63 : l.length + l2.length ≤ maxLen)
    (hK : ∀ g' c' t' w', Own b (L.set i (g', c' * k, LRow k R (l ++ l2))) w' → (l ++ l2).length ≤ c' ∧ c' ≤ maxLen → t' = tm.setIfInBounds d (.slice (some ⟨g', 0, none⟩) (l ++ l2).length c') → t'.size = tm.size → t'[d]? = some (.slice (some ⟨g', 0, none⟩) (l ++ l2).length c') → (∀ j, j ≠ d → t'[j]? = tm[j]?) → wpList P ops Q rest ⟨t', df⟩ w') : wpList P ops Q (o :: rest) ⟨tm, df⟩ w := by
  obtain ⟨ie, h4, hp⟩ := Option.map_eq_some_iff.1 hie
  obtain ⟨hsz, hby⟩ := Prod.mk.inj hp
  rw [h4, Option.bind_some] at hz
  obtain ⟨z, h5, hzs⟩ := Option.map_eq_some_iff.1 hz
  subst hsz; subst hby
  obtain ⟨cur, te, a1, a2, cs1, e1, a3⟩ := h.get hi
  injection e1 with e1
  subst e1
  obtain ⟨src, ts, b1, b2, cs2, e2, b3⟩ := h.get hj
  injection e2 with e2
  subst e2
  have hl1 := a3.len
  have hl2 := b3.len
  have hnews : ∀ q u, (src.toList.take (l2.length * ie.size))[q]? = some u → w.cell? ((⟨g2, 0, none⟩ : Addr).add q) = some u := fun q u hq => by
    rw [add_lit, cell_of_row w g2 q src ts (0, 0) b1]
    rw [List.getElem?_take] at hq
    split at hq
    · simpa using hq
    · cases hq
  have holds : ∀ q u, (cur.toList.take (l.length * ie.size))[q]? = some u → w.cell? ((⟨g, 0, none⟩ : Addr).add q) = some u := fun q u hq => by
    rw [add_lit, cell_of_row w g q cur te (0, 0) a1]
    rw [List.getElem?_take] at hq
    split at hq
    · simpa using hq
    · cases hq
  have hrow : RowsOf ie.size R (cur.toList.take (l.length * ie.size) ++ src.toList.take (l2.length * ie.size)) (l ++ l2) := RowsOf.append b3 a3
  have hlen : (l ++ l2).length = l.length + l2.length := List.length_append
  refine wpList_step fun K hKK => if_always hgd ?_
  by_cases hfit : l.length + l2.length ≤ c
  · have hr := run_append_fits2 (P := P) w t o.type e te ie hu h4 g l.length c cur a1 ⟨g2, 0, none⟩ l2.length c2 (src.toList.take (l2.length * ie.size)) hl2 hnews (b3.one_cells hone) hfit (by rw [hl2, a2, ← Nat.add_mul]; exact Nat.mul_le_mul_right _ hfit)
    refine wp_append_run x y t ho hx hy hr (hKK _ _ ?_)
    rw [hd, ← hlen]
    refine hK g c (tm.setIfInBounds d _) _ ?_ ⟨by omega, hc.2⟩ rfl (by simp) (by simp [hds]) (fun j hj => by rw [Array.getElem?_setIfInBounds, if_neg (fun e => hj e.symm)])
    have hs : (cur.toList.take (l.length * ie.size) ++ src.toList.take (l2.length * ie.size) ++ cur.toList.drop (l.length * ie.size + (src.toList.take (l2.length * ie.size)).length)).toArray.size = c * ie.size := by
      have hm : (l.length + l2.length) * ie.size ≤ c * ie.size := Nat.mul_le_mul_right _ hfit
      rw [Nat.add_mul] at hm
      have e0 : cur.toList.length = c * ie.size := by rw [Array.length_toList, a2]
      rw [List.size_toArray, List.length_append, List.length_append, List.length_drop, e0, hl1, hl2]
      omega
    refine h.put hi _ hs ⟨_, rfl, ?_⟩
    rw [hlen, Nat.add_mul, List.take_append_of_le_length (by rw [List.length_append, hl1, hl2]; exact Nat.le_refl _), List.take_of_length_le (by rw [List.length_append, hl1, hl2]; exact Nat.le_refl _)]
    exact hrow
  · have hr := run_append_grow (P := P) w t o.type e ie z hu h4 h5 ⟨g, 0, none⟩ l.length c (cur.toList.take (l.length * ie.size)) hl1 holds ⟨g2, 0, none⟩ l2.length c2 (src.toList.take (l2.length * ie.size)) hl2 hnews (by omega) (by simp only [maxLen] at h63; omega) (growslice_fits (by omega) hroom)
    refine wp_append_run x y t ho hx hy hr (hKK _ _ ?_)
    have hge := grownCap_ge w (l.length + l2.length) c e
    have hcm := grownCap_le_maxLen w (l.length + l2.length) c e h63
    rw [hd, ← hlen]
    rw [← hlen] at hge hcm
    refine hK w.heap.size (grownCap w (l ++ l2).length c e) (tm.setIfInBounds d _) _ ?_ ⟨hge, hcm⟩ rfl (by simp) (by simp [hds]) (fun j hj => by rw [Array.getElem?_setIfInBounds, if_neg (fun e => hj e.symm)])
    have hk' := (h.drew).keep ((Below.refl _ _).alloc (Nat.le_refl _) (.cells ((cur.toList.take (l.length * ie.size)).toArray ++ (src.toList.take (l2.length * ie.size)).toArray ++ Builtin.zeroCells z.cells (grownCap w (l ++ l2).length c e - (l ++ l2).length)) e))
    refine hk'.swap h.1.size (fun r hr => Nat.ne_of_lt (h.lt r hr)) ⟨_, e, heap_alloc_new w.drew _, ?_, _, rfl, ?_⟩
    · rw [Array.size_append, Array.size_append, List.size_toArray, List.size_toArray, hl1, hl2, size_zeroCells, hzs, ← Nat.add_mul, ← Nat.add_mul]
      congr 1
      omega
    · have e0 : (cur.toList.take (l.length * ie.size) ++ src.toList.take (l2.length * ie.size)).length = (l ++ l2).length * ie.size := by rw [List.length_append, hl1, hl2, hlen, Nat.add_mul]
      simp only [Array.toList_append]
      rw [List.take_append_of_le_length (Nat.le_of_eq e0.symm), List.take_of_length_le (Nat.le_of_eq e0)]
      exact hrow
/-- append of nothing. -/
theorem tlx_append_nil (k : Nat) {t : TypeId} (e : TypeId) (x y : Operand) (hgd : o.guard = none) (ho : o.op = .call { callee := .builtin .append, args := #[x, y], argTypes := #[t, t] }) (d : Nat) (hd : o.dst = some d) (hds : d < tm.size)
    (hu : P.underlying t = some (.slice e)) (hie : (P.info? e).map (·.size) = some k) (ad : Addr) (n c : Nat) (hx : Act.eval ⟨tm, df⟩ x = .slice (some ad) n c) (hy : Act.eval ⟨tm, df⟩ y = .slice none 0 0) (hc : n ≤ c)
    (hK : ∀ t', t' = tm.setIfInBounds d (.slice (some ad) n c) → t'.size = tm.size → t'[d]? = some (.slice (some ad) n c) → (∀ j, j ≠ d → t'[j]? = tm[j]?) → wpList P ops Q rest ⟨t', df⟩ w) : wpList P ops Q (o :: rest) ⟨tm, df⟩ w := by
  obtain ⟨ie, h4, _⟩ := Option.map_eq_some_iff.1 hie
  refine wpList_step fun K hKK => if_always hgd ?_
  refine wp_append_run x y t ho hx hy (run_append_none w t o.type e ie hu h4 ad n c hc) (hKK _ _ ?_)
  rw [hd]
  exact hK _ rfl (by simp) (by simp [hds]) (fun j hj => by rw [Array.getElem?_setIfInBounds, if_neg (fun e => hj e.symm)])
/-- A slot's value moved to another. -/
theorem tlx_assign (x : Operand) (hgd : o.guard = none) (ho : o.op = .assign x) (d : Nat) (hd : o.dst = some d) (hds : d < tm.size) (u : Value) (hx : Act.eval ⟨tm, df⟩ x = u)
    (h : ∀ t', t' = tm.setIfInBounds d u → t'.size = tm.size → t'[d]? = some u → (∀ k, k ≠ d → t'[k]? = tm[k]?) → wpList P ops Q rest ⟨t', df⟩ w) : wpList P ops Q (o :: rest) ⟨tm, df⟩ w := by
  refine wpList_step fun K hK => if_always hgd ?_
  refine wp_val u (by unfold execOp; rw [ho]; subst hx; rfl) (hK _ _ ?_)
  rw [hd]
  exact h (tm.setIfInBounds d u) rfl (by simp) (by simp [hds]) (fun k hk => by rw [Array.getElem?_setIfInBounds, if_neg (fun e => hk e.symm)])
/-- A literal of one row: the world's row is that of the list of one. -/
theorem tlx_lit1 {α : Type} (R : α → Value → Prop) (u : α) (k : Nat) {t : TypeId} (e : TypeId) (x : Operand) (hgd : o.guard = none) (ho : o.op = .buildSlice t 1 #[(0, x)]) (d : Nat) (hd : o.dst = some d) (hds : d < tm.size) (hk : 0 < k ∧ k ≤ 16777216)
    (hu : P.underlying t = some (.slice e)) (hie : (P.info? e).map (·.size) = some k) (hz : ((P.info? e).bind (·.zero)).isSome = true) (v : Value) (hx : Act.eval ⟨tm, df⟩ x = v) (hv : R u v) (hvc : ∀ v, R u v → ∃ cs, v = .agg cs ∧ cs.size = k ∧ cs.all (·.oneCell') = true) (h : Own b L w)
    (hK : ∀ g t' w', Own b (L ++ [(g, 1 * k, LRow k R [u])]) w' → t' = tm.setIfInBounds d (.slice (some ⟨g, 0, none⟩) 1 1) → t'.size = tm.size → t'[d]? = some (.slice (some ⟨g, 0, none⟩) 1 1) → (∀ j, j ≠ d → t'[j]? = tm[j]?) → wpList P ops Q rest ⟨t', df⟩ w') : wpList P ops Q (o :: rest) ⟨tm, df⟩ w := by
  obtain ⟨cs, rfl, h2, h3⟩ := hvc v hv
  obtain ⟨ie, h4, hsz⟩ := Option.map_eq_some_iff.1 hie
  rw [h4, Option.bind_some] at hz
  obtain ⟨z, h5⟩ := Option.isSome_iff_exists.1 hz
  refine wpList_step fun K hKK => if_always hgd ?_
  refine op_lit1 t e x ho hd ie z k hk hu h4 h5 hsz cs hx h2 (hKK _ _ ?_)
  refine hK w.heap.size (tm.setIfInBounds d _) _ ?_ rfl (by simp) (by simp [hds]) (fun j hj => by rw [Array.getElem?_setIfInBounds, if_neg (fun e => hj e.symm)])
  refine (h.keep ((Below.refl _ _).alloc (Nat.le_refl _) _)).add (h.1.size) (fun r hr => Nat.ne_of_lt (h.lt r hr)) ⟨cs, e, heap_alloc_new w _, by omega, cs, rfl, ?_⟩
  rw [List.take_of_length_le (by simp [h2])]
  exact RowsOf.one (by simpa using h2) (by simpa using hv)
/-- A call that hands back a slice of rows of its own (not none). -/
theorem tlx_fresh3 {α : Type} {R : α → Value → Prop} {l : List α} {k : Nat} (hl : l ≠ []) (f : FuncId) (x y z : Operand) {tys : Array TypeId} (u v s : Value) (hgd : o.guard = none) (ho : o.op = .call { callee := .value (.func f), args := #[x, y, z], argTypes := tys }) (d : Nat) (hd : o.dst = some d) (hds : d < tm.size)
    (hx : Act.eval ⟨tm, df⟩ x = u) (hy : Act.eval ⟨tm, df⟩ y = v) (hz : Act.eval ⟨tm, df⟩ z = s) (hf : ∀ (args : Array Value) (w : World), (callFunc f args).run P w = .ok (.enter f args) w) (hcall : Calls P f #[u, v, s] w (Fresh k R l w)) (h : Own b L w)
    (hK : ∀ g t' w', Own b (L ++ [(g, l.length * k, LRow k R l)]) w' → t' = tm.setIfInBounds d (.slice (some ⟨g, 0, none⟩) l.length l.length) → t'.size = tm.size → t'[d]? = some (.slice (some ⟨g, 0, none⟩) l.length l.length) → (∀ j, j ≠ d → t'[j]? = tm[j]?) → wpList P ops Q rest ⟨t', df⟩ w') : wpList P ops Q (o :: rest) ⟨tm, df⟩ w := by
  refine wpList_step fun K hKK => if_always hgd ?_
  refine wp_fn3 f x y z tys u v s ho hx hy hz hf (hcall.mono fun e w' ⟨hb, hr⟩ => ?_)
  rcases hr with ⟨h1, _⟩ | ⟨_, g, cs, ty, rfl, h2, h3, h4⟩
  · exact absurd h1 hl
  · refine ⟨_, rfl, hKK _ _ ?_⟩
    rw [hd]
    have hk' := h.keep hb
    have hlen : cs.size = l.length * k := by rw [← Array.length_toList]; exact h4.len
    refine hK g (tm.setIfInBounds d _) w' ?_ rfl (by simp) (by simp [hds]) (fun j hj => by rw [Array.getElem?_setIfInBounds, if_neg (fun e => hj e.symm)])
    refine hk'.add (Nat.le_trans h.1.size h2) (fun r hr => Nat.ne_of_lt (Nat.lt_of_lt_of_le (h.lt r hr) h2)) ⟨cs, ty, h3, hlen, cs, rfl, ?_⟩
    rw [List.take_of_length_le (by rw [Array.length_toList, hlen]; exact Nat.le_refl _)]
    exact h4
theorem wp_fn3_nil {α : Type} {R : α → Value → Prop} {l : List α} {k : Nat} {f : FuncId} {args : Array Value} (hl : l = []) (h : Calls P f args w (Fresh k R l w)) : Calls P f args w (Gives (· = .slice none 0 0) w) :=
  h.mono fun e w' ⟨hb, hr⟩ => by
    rcases hr with ⟨_, rfl⟩ | ⟨h1, _⟩
    · exact ⟨_, rfl, rfl, hb⟩
    · exact absurd hl h1
end
end Go.Proofs.Ytciakfhjjnmeeaa

namespace Go.Proofs.Ytciakfhjjnmeeaa
open Go.RowKit Nt

/-- After i rounds and k steps of the next one, the digits l hold so much of x times y. -/
structure Conv (x y : List Int) (i k : Nat) (l : List Int) : Prop where
  len : l.length = 16
  low : ∀ j, 0 ≤ nth l j
  high : ∀ j, nth l j ≤ (16 * (i : Int) + k) * 163203776550
  sum : ∃ q : Int, dnum l = dnum (x.take i) * dnum y + 65536 ^ i * nth x i * dnum (y.take k) + q * PI

theorem digit_prod {x y : List Int} (hx : Norm x) (hy : Norm y) (i k : Nat) : 0 ≤ nth x i * nth y k ∧ nth x i * nth y k ≤ 4294836225 := by
  have a := hx.nth i
  have b := hy.nth k
  refine ⟨Int.mul_nonneg a.1 b.1, ?_⟩
  have := Int.mul_le_mul (show nth x i ≤ 65535 by omega) (show nth y k ≤ 65535 by omega) b.1 (by decide)
  omega

theorem p256 : (65536 : Int) ^ 16 = 38 + 2 * PI := by decide

theorem nth_zeros (j : Nat) : nth (List.replicate 16 (0 : Int)) j = 0 := by
  unfold nth; rw [List.getD_eq_getElem?_getD, List.getElem?_replicate]; split <;> rfl

theorem Conv.start (x y : List Int) : Conv x y 0 0 (List.replicate 16 0) where
  len := rfl
  low j := by
    have : nth (List.replicate 16 (0 : Int)) j = 0 := nth_zeros j
    omega
  high j := by
    have : nth (List.replicate 16 (0 : Int)) j = 0 := nth_zeros j
    omega
  sum := ⟨0, by
    have : dnum (List.replicate 16 0) = 0 := by decide
    rw [this]; simp [dnum]⟩

theorem Conv.next {x y l : List Int} {i : Nat} (hx : x.length = 16) (hy : y.length = 16) (hi : i < 16) (h : Conv x y i 16 l) : Conv x y (i + 1) 0 l where
  len := h.len
  low := h.low
  high j := by have := h.high j; push_cast at *; omega
  sum := by
    obtain ⟨q, hq⟩ := h.sum
    refine ⟨q, ?_⟩
    rw [hq, dnum_take x i (by omega), List.take_of_length_le (by omega : y.length ≤ 16)]
    simp only [List.take_zero, dnum]
    generalize dnum (x.take i) = a
    generalize dnum y = b
    generalize (65536 : Int) ^ i = c
    grind

theorem Conv.near {x y l : List Int} {i k : Nat} (hx : Norm x) (hy : Norm y) (hk : k < 16) (hik : i + k < 16) (h : Conv x y i k l) :
    Conv x y i (k + 1) (l.set (i + k) (nth l (i + k) + nth x i * nth y k)) where
  len := by rw [List.length_set]; exact h.len
  low j := by
    have p := digit_prod hx hy i k
    rw [nth_set _ _ _ _ (by rw [h.len]; omega)]
    have := h.low (i + k); have := h.low j
    split <;> omega
  high j := by
    have p := digit_prod hx hy i k
    rw [nth_set _ _ _ _ (by rw [h.len]; omega)]
    have := h.high (i + k); have := h.high j
    push_cast
    split <;> omega
  sum := by
    obtain ⟨q, hq⟩ := h.sum
    refine ⟨q, ?_⟩
    rw [dnum_set _ _ _ (by rw [h.len]; omega), hq, dnum_take y k (by rw [hy.1]; omega), Int.pow_add]
    generalize dnum (x.take i) = a
    generalize dnum y = b
    generalize (65536 : Int) ^ i = c
    generalize (65536 : Int) ^ k = d
    generalize dnum (y.take k) = e
    generalize nth x i = xi
    generalize nth y k = yk
    grind

theorem Conv.far {x y l : List Int} {i k : Nat} (hx : Norm x) (hy : Norm y) (hk : k < 16) (hi : i < 16) (hik : 16 ≤ i + k) (h : Conv x y i k l) :
    Conv x y i (k + 1) (l.set (i + k - 16) (nth l (i + k - 16) + 38 * nth x i * nth y k)) where
  len := by rw [List.length_set]; exact h.len
  low j := by
    have p := digit_prod hx hy i k
    have e : 38 * nth x i * nth y k = 38 * (nth x i * nth y k) := Int.mul_assoc ..
    rw [nth_set _ _ _ _ (by rw [h.len]; omega), e]
    have := h.low (i + k - 16); have := h.low j
    split <;> omega
  high j := by
    have p := digit_prod hx hy i k
    have e : 38 * nth x i * nth y k = 38 * (nth x i * nth y k) := Int.mul_assoc ..
    rw [nth_set _ _ _ _ (by rw [h.len]; omega), e]
    have := h.high (i + k - 16); have := h.high j
    push_cast
    split <;> omega
  sum := by
    obtain ⟨q, hq⟩ := h.sum
    refine ⟨q - 2 * 65536 ^ (i + k - 16) * nth x i * nth y k, ?_⟩
    have e2 : (65536 : Int) ^ i * 65536 ^ k = 65536 ^ (i + k - 16) * (38 + 2 * PI) := by
      rw [← Int.pow_add, ← p256, ← Int.pow_add]; congr 1; omega
    rw [dnum_set _ _ _ (by rw [h.len]; omega), hq, dnum_take y k (by rw [hy.1]; omega)]
    generalize dnum (x.take i) = a
    generalize dnum y = b
    generalize (65536 : Int) ^ i = c at *
    generalize (65536 : Int) ^ k = d at *
    generalize (65536 : Int) ^ (i + k - 16) = f at *
    generalize dnum (y.take k) = e
    generalize nth x i = xi
    generalize nth y k = yk
    generalize PI = p at *
    have e3 : c * d * xi * yk = f * (38 + 2 * p) * xi * yk := by rw [e2]
    grind

theorem Conv.done {x y l : List Int} {n m : F} (hx : Norm x) (hn : dnum x = (n.val : Int)) (hm : dnum y = (m.val : Int)) (h : Conv x y 16 0 l) :
    (∀ a ∈ l, 0 ≤ a ∧ a < 1125899906842624) ∧ dnum l % 57896044618658097711785492504343953926634992332820282019728792003956564819949 = ((n * m : F).val : Int) := by
  constructor
  · intro a ha
    obtain ⟨j, hj, rfl⟩ := List.getElem_of_mem ha
    have h1 := h.low j
    have h2 := h.high j
    rw [nth_get hj] at h1 h2
    omega
  · obtain ⟨q, hq⟩ := h.sum
    rw [hq, List.take_of_length_le (by rw [hx.1]; omega), hn, hm, val_mul_int]
    simp only [List.take_zero, dnum, Int.mul_zero, Int.add_zero]
    exact Int.add_mul_emod_self_right _ _ _

/-- Sums of digits, one by one. -/
theorem dnum_sum (x y : List Int) (hy : y.length = 16) (k : Nat) (hk : k < 16) (l : List Int) (hl : l.length = 16) (h : dnum l = dnum x + dnum (y.take k)) :
    dnum (l.set k (nth l k + nth y k)) = dnum x + dnum (y.take (k + 1)) := by
  rw [dnum_set _ _ _ (by omega), dnum_take y k (by omega), h]
  grind
end Go.Proofs.Ytciakfhjjnmeeaa

namespace Go.Proofs.Ytciakfhjjnmeeaa
open Go.RowKit Nt

theorem digits_num (n : F) : Norm (dgs (bytesN n.val)) ∧ dnum (dgs (bytesN n.val)) = (n.val : Int) :=
  ⟨dgs_norm _ (bytesN_len _) (bytesN_byt _), by rw [dgs_num 16 _ (bytesN_len _), num_bytesN _ (Nat.lt_trans n.isLt (by decide))]⟩

set_option maxHeartbeats 2000000 in
set_option maxRecDepth 100000 in
theorem mul08_any (n m : F) (w : World) : Calls Try.prog 76 #[bv n, bv m] w (NumOut (n * m) w) := by
  obtain ⟨hX, dX⟩ := digits_num n
  obtain ⟨hY, dY⟩ := digits_num m
  have R0 := new3_0 w (.cells (vals (bytesN n.val)) 29) (.cells (vals (bytesN m.val)) 29) (.cells (vals z32) 29)
  have R1 := new3_1 w (.cells (vals (bytesN n.val)) 29) (.cells (vals (bytesN m.val)) 29) (.cells (vals z32) 29)
  have R2 : (((w.alloc (.cells (vals (bytesN n.val)) 29)).alloc (.cells (vals (bytesN m.val)) 29)).alloc (.cells (vals z32) 29)).heap[w.heap.size + 1 + 1]? = _ := new3_2 w _ _ _
  have B0 : Below w.heap.size w (((w.alloc (.cells (vals (bytesN n.val)) 29)).alloc (.cells (vals (bytesN m.val)) 29)).alloc (.cells (vals z32) 29)) := by go_grown
  go_enter Try.func76, Try.ntmps76
  go_wp2_with (refine ld_row rfl 29 (.tmp 2) rfl _ (by rfl) _ _ R0 32 tNum (by rw [vals_size, bytesN_len]) ?_)
  refine (digits_any _ _ (bytesN_len _) (bytesN_byt _)).mono ?_
  rintro e w1 ⟨rfl, b1⟩
  replace R1 := row_call b1 R1
  replace R2 := row_call b1 R2
  have B1 := below_call b1 B0
  clear b1 B0 R0
  generalize dgs (bytesN n.val) = X at *
  have HX := Lib.hid hX.1
  have L1 := row_lt R1
  have L2 := row_lt R2
  replace R1 := row_alloc (x := .cells (valsK .i64 X) 100) R1
  replace R2 := row_alloc (x := .cells (valsK .i64 X) 100) R2
  have R3 := row_new (w := w1) (x := .cells (valsK .i64 X) 100)
  have B2 := B1.alloc B1.size (.cells (valsK .i64 X) 100)
  go_wp2_with (first | (refine st_new rfl 100 (.tmp 5) _ rfl _ _ _ (by rfl) (by rfl) 16 tDig (by rw [valsK_size, HX.out]) (by rfl) (valsK_one _ _) ?_; generalize w1.alloc (.cells (valsK .i64 X) 100) = W1 at *) | (refine ld_row rfl 29 (.tmp 3) rfl _ (by rfl) _ _ R1 32 tNum (by rw [vals_size, bytesN_len]) ?_))
  refine (digits_any _ _ (bytesN_len _) (bytesN_byt _)).mono ?_
  rintro e w2 ⟨rfl, b2⟩
  replace R2 := row_call b2 R2
  replace R3 := row_call b2 R3
  have B3 := below_call b2 B2
  clear b2 B2 B1 R1
  generalize dgs (bytesN m.val) = Y at *
  have HY := Lib.hid hY.1
  have L3 := row_lt R3
  replace R2 := row_alloc (x := .cells (valsK .i64 Y) 100) R2
  replace R3 := row_alloc (x := .cells (valsK .i64 Y) 100) R3
  have R4 := row_new (w := w2) (x := .cells (valsK .i64 Y) 100)
  have B4 := B3.alloc B3.size (.cells (valsK .i64 Y) 100)
  go_wp2_with (refine st_new rfl 100 (.tmp 6) _ rfl _ _ _ (by rfl) (by rfl) 16 tDig (by rw [valsK_size, HY.out]) (by rfl) (valsK_one _ _) ?_)
  have Q2 := row_alloc (x := .cells (valsK .i64 z16) 100) R2
  have Q3 := row_alloc (x := .cells (valsK .i64 z16) 100) R3
  have Q4 := row_alloc (x := .cells (valsK .i64 z16) 100) R4
  have Q5 : ((w2.alloc (.cells (valsK .i64 Y) 100)).alloc (.cells (valsK .i64 z16) 100)).heap[w2.heap.size + 1]? = some (.cells (valsK .i64 z16) 100 (0, 0)) := row_at (by simp)
  have B5 := B4.alloc B4.size (.cells (valsK .i64 z16) 100)
  have hn1 : w1.heap.size ≠ w2.heap.size + 1 := by omega
  have hn2 : w2.heap.size ≠ w2.heap.size + 1 := by omega
  have hn3 : w.heap.size + 1 + 1 ≠ w2.heap.size + 1 := by omega
  have hn4 : w.heap.size ≤ w2.heap.size + 1 := by omega
  have hn5 : w.heap.size ≤ w.heap.size + 1 + 1 := by omega
  change Code.wp _ _ _ _ ((w2.alloc (.cells (valsK .i64 Y) 100)).alloc (.cells (valsK .i64 z16) 100))
  generalize (w2.alloc (.cells (valsK .i64 Y) 100)).alloc (.cells (valsK .i64 z16) 100) = W at Q2 Q3 Q4 Q5 B5 ⊢
  clear R2 R3 R4 B4 B3 L1 L2 L3
  generalize w2.heap.size + 1 = gl at hn1 hn2 hn3 hn4 Q5 ⊢
  generalize w1.heap.size = gx at hn1 Q3 ⊢
  generalize w2.heap.size = gy at hn2 Q4 ⊢
  generalize w.heap.size + 1 + 1 = gr at hn3 hn5 Q2 ⊢
  go_loopw [8] (fun i wr => ∃ (a : Nat) (L : List Int), a ≤ 16 ∧ i = .int .i64 a ∧ Conv X Y a 0 L ∧ wr.heap[gx]? = some (.cells (valsK .i64 X) 100 (0, 0)) ∧ wr.heap[gy]? = some (.cells (valsK .i64 Y) 100 (0, 0)) ∧ wr.heap[gl]? = some (.cells (valsK .i64 L) 100 (0, 0)) ∧ wr.heap[gr]? = some (.cells (vals z32) 29 (0, 0)) ∧ Below w.heap.size w wr) (fun i _ => 16 - (intOf i).toNat)
  case atStart => exact ⟨0, z16, by omega, rfl, Conv.start X Y, Q3, Q4, Q5, Q2, B5⟩
  case round =>
    obtain ⟨a, L, ha, rfl, hC, RX, RY, RL, RR, Bk⟩ := hrel
    clear Q2 Q3 Q4 Q5 B5
    obtain ⟨wo, hwo⟩ : ∃ wo, wo = wr := ⟨_, rfl⟩
    subst hwo
    by_cases hlt : a < 16
    · go_wp2_with fail
      go_loopw [9] (fun i wr => ∃ (b : Nat) (L : List Int), b ≤ 16 ∧ i = .int .i64 b ∧ Conv X Y a b L ∧ wr.heap[gx]? = some (.cells (valsK .i64 X) 100 (0, 0)) ∧ wr.heap[gy]? = some (.cells (valsK .i64 Y) 100 (0, 0)) ∧ wr.heap[gl]? = some (.cells (valsK .i64 L) 100 (0, 0)) ∧ wr.heap[gr]? = some (.cells (vals z32) 29 (0, 0)) ∧ Below w.heap.size w wr) (fun i _ => 16 - (intOf i).toNat)
      case atStart => exact ⟨0, L, by omega, rfl, hC, RX, RY, RL, RR, Bk⟩
      case round =>
        clear hC RX RY RL RR Bk
        obtain ⟨b, L, hb, rfl, hC, RX, RY, RL, RR, Bk⟩ := hrel
        have HCL := Lib.hid hC.len
        by_cases hbl : b < 16
        · have cx := (row_cell RX a).trans (valsK_get (by rw [HX.out]; exact hlt))
          have cy := (row_cell RY b).trans (valsK_get (by rw [HY.out]; exact hbl))
          have px := hX.nth a
          have py := hY.nth b
          have pp := digit_prod hX hY a b
          by_cases hab : a + b < 16
          · have cl := (row_cell RL (a + b)).trans (valsK_get (by rw [HCL.out]; omega))
            have fl := row_free RL (a + b)
            have hlow := hC.low (a + b)
            have hhigh := hC.high (a + b)
            have HS := Lib.hid (row_set (i := a + b) (v := .int .i64 (nth L (a + b) + nth X a * nth Y b)) RL)
            have HC := Lib.hid (hC.near hX hY hbl hab)
            have H1 := Lib.hid RX
            have H2 := Lib.hid RY
            have H3 := Lib.hid RR
            clear RX RY RL RR hC
            go_wp2
            go_region
            go_wp2
            go_roundw
            case rel =>
              refine ⟨b + 1, _, by omega, by go_num, HC.out, row_set_other H1.out (by omega), row_set_other H2.out (by omega), ?_, row_set_other H3.out (by omega), by go_grown⟩
              refine HS.out.trans ?_
              rw [valsK_set]
            case measure => simp [intOf]; omega

          · have pq : 0 ≤ 38 * nth X a * nth Y b ∧ 38 * nth X a * nth Y b ≤ 163203776550 := by
              have e38 : 38 * nth X a * nth Y b = 38 * (nth X a * nth Y b) := Int.mul_assoc ..
              omega
            have cl := (row_cell RL (a + b - 16)).trans (valsK_get (by rw [HCL.out]; omega))
            have fl := row_free RL (a + b - 16)
            have hlow := hC.low (a + b - 16)
            have hhigh := hC.high (a + b - 16)
            have HS := Lib.hid (row_set (i := a + b - 16) (v := .int .i64 (nth L (a + b - 16) + 38 * nth X a * nth Y b)) RL)
            have HC := Lib.hid (hC.far hX hY hbl hlt (by omega))
            have H1 := Lib.hid RX
            have H2 := Lib.hid RY
            have H3 := Lib.hid RR
            clear RX RY RL RR hC
            go_wp2
            go_region
            go_wp2
            go_roundw
            case rel =>
              refine ⟨b + 1, _, by omega, by go_num, HC.out, row_set_other H1.out (by omega), row_set_other H2.out (by omega), ?_, row_set_other H3.out (by omega), by go_grown⟩
              refine HS.out.trans ?_
              rw [valsK_set]
            case measure => simp [intOf]; omega

        · obtain rfl : b = 16 := by omega
          have HC := Lib.hid (hC.next hX.1 hY.1 hlt)
          have H1 := Lib.hid RX
          have H2 := Lib.hid RY
          have H3 := Lib.hid RR
          have H4 := Lib.hid RL
          clear RX RY RL RR hC
          go_wp2
          go_roundw
          case rel => exact ⟨a + 1, L, by omega, by go_num, HC.out, H1.out, H2.out, H4.out, H3.out, Bk⟩
          case measure => simp [intOf]; omega
    · obtain rfl : a = 16 := by omega
      obtain ⟨hb, hd⟩ := hC.done hX dX dY
      have HCL := Lib.hid hC.len
      clear RX RY hC
      go_wp2_with (refine ld_row rfl 100 (.tmp 7) rfl _ (by rfl) _ _ RL 16 tDig (by rw [valsK_size, HCL.out]) ?_)
      refine (least08_any L (n * m) _ HCL.out hb hd).mono ?_
      rintro e w3 ⟨rfl, b3⟩
      have RR3 := row_call b3 RR
      have B3 := below_call b3 Bk
      clear b3 hb hd
      go_wp2_with (refine st_row rfl 29 (.tmp 4) _ rfl _ _ (by rfl) (by rfl) _ _ RR3 32 tNum (by rw [vals_size, bytesN_len]) (by rfl) (vals_one _) ?_)
      refine ret_row rfl _ _ _ rfl (row_put RR3) 32 tNum (by rw [vals_size, bytesN_len]) rfl ?_
      exact ⟨rfl, below_setRow B3 hn5 _⟩
end Go.Proofs.Ytciakfhjjnmeeaa

namespace Go.Proofs.Ytciakfhjjnmeeaa
open Go.RowKit Nt

set_option maxHeartbeats 1000000 in
set_option maxRecDepth 100000 in
theorem power08_any (n : F) (V : Nat) (w : World) (hV : V < 2 ^ 256) :
    Calls Try.prog 35 #[bv n, .agg (vals (bytesN V))] w (NumOut (n ^ V) w) := by
  have HV := Lib.hid hV
  clear hV
  have R0 := new3_0 w (.cells (vals (bytesN n.val)) 29) (.cells (vals (bytesN V)) 22) (.cells (vals z32) 29)
  have R1 := new3_1 w (.cells (vals (bytesN n.val)) 29) (.cells (vals (bytesN V)) 22) (.cells (vals z32) 29)
  have R2 : (((w.alloc (.cells (vals (bytesN n.val)) 29)).alloc (.cells (vals (bytesN V)) 22)).alloc (.cells (vals z32) 29)).heap[w.heap.size + 1 + 1]? = _ := new3_2 w _ _ _
  have B0 : Below w.heap.size w (((w.alloc (.cells (vals (bytesN n.val)) 29)).alloc (.cells (vals (bytesN V)) 22)).alloc (.cells (vals z32) 29)) := by go_grown
  go_enter Try.func35, Try.ntmps35
  go_wp2_with fail
  refine (small08_any 1 _ (by omega)).mono ?_
  rintro e w1 ⟨rfl, b1⟩
  replace R0 := row_call b1 R0
  replace R1 := row_call b1 R1
  replace R2 := row_call b1 R2
  have B1 := below_call b1 B0
  have L2 := row_lt R2
  clear b1 B0
  replace R0 := row_alloc (x := .cells (vals (bytesN (Fin.ofNat P 1).val)) 29) R0
  replace R1 := row_alloc (x := .cells (vals (bytesN (Fin.ofNat P 1).val)) 29) R1
  replace R2 := row_alloc (x := .cells (vals (bytesN (Fin.ofNat P 1).val)) 29) R2
  have R3 := row_new (w := w1) (x := .cells (vals (bytesN (Fin.ofNat P 1).val)) 29)
  have B2 := B1.alloc B1.size (.cells (vals (bytesN (Fin.ofNat P 1).val)) 29)
  have HX1 := Lib.hid (show n ^ (V / 2 ^ 256) = Fin.ofNat P 1 from pow_top n V HV.out)
  generalize Fin.ofNat P 1 = one at *
  go_wp2_with (refine st_new rfl 29 (.tmp 5) _ rfl _ _ _ (by rfl) (by rfl) 32 tNum (by rw [vals_size, bytesN_len]) (by rfl) (vals_one _) ?_)
  have hn0 : w.heap.size ≠ w1.heap.size := by omega
  have hn1 : w.heap.size + 1 ≠ w1.heap.size := by omega
  have hn2 : w.heap.size + 1 + 1 ≠ w1.heap.size := by omega
  have hn3 : w.heap.size ≤ w1.heap.size := by omega
  have hn4 : w.heap.size ≤ w.heap.size + 1 + 1 := by omega
  change Code.wp _ _ _ _ (w1.alloc (.cells (vals (bytesN one.val)) 29))
  generalize w1.alloc (.cells (vals (bytesN one.val)) 29) = W at R0 R1 R2 R3 B2 ⊢
  generalize w1.heap.size = g at hn0 hn1 hn2 hn3 R3 ⊢
  clear B1 L2
  go_loopw [6] (fun i wr => ∃ k : Nat, k ≤ 256 ∧ i = .int .i64 ((k : Int) - 1) ∧ wr.heap[w.heap.size]? = some (.cells (vals (bytesN n.val)) 29 (0, 0)) ∧ wr.heap[w.heap.size + 1]? = some (.cells (vals (bytesN V)) 22 (0, 0)) ∧ wr.heap[w.heap.size + 1 + 1]? = some (.cells (vals z32) 29 (0, 0)) ∧ wr.heap[g]? = some (.cells (vals (bytesN (n ^ (V / 2 ^ k)).val)) 29 (0, 0)) ∧ Below w.heap.size w wr) (fun i _ => (intOf i + 1).toNat)
  case atStart => exact ⟨256, by omega, rfl, R0, R1, R2, by rw [HX1.out]; exact R3, B2⟩
  case round =>
    obtain ⟨k, hk, rfl, QN, QE, QZ, QO, BK⟩ := hrel
    clear R0 R1 R2 R3 B2 HX1
    cases k with
    | zero =>
      replace QO : wr.heap[g]? = some (.cells (vals (bytesN (n ^ V).val)) 29 (0, 0)) := by simpa using QO
      go_wp2_with (first | (refine ld_row rfl 29 (.tmp 5) rfl _ (by rfl) _ _ QO 32 tNum (by rw [vals_size, bytesN_len]) ?_) | (refine st_row rfl 29 (.tmp 4) _ rfl _ _ (by rfl) (by rfl) _ _ QZ 32 tNum (by rw [vals_size, bytesN_len]) (by rfl) (vals_one _) ?_))
      refine ret_row rfl _ _ _ rfl (row_put QZ) 32 tNum (by rw [vals_size, bytesN_len]) rfl ?_
      exact ⟨rfl, below_setRow BK hn4 _⟩
    | succ j =>
      rw [show ((j + 1 : Nat) : Int) - 1 = (j : Int) by omega]
      have HE := Lib.hid QE
      have HZ := Lib.hid QZ
      have HN := Lib.hid QN
      have hstep := pow_bit n V j
      generalize n ^ (V / 2 ^ (j + 1)) = p at *
      have HST := Lib.hid hstep
      clear QE QZ QN hstep
      go_wp2_with (refine ld_row rfl 29 (.tmp 5) rfl _ (by rfl) _ _ QO 32 tNum (by rw [vals_size, bytesN_len]) ?_)
      refine (mul08_any p p _).mono ?_
      rintro e w2 ⟨rfl, b2⟩
      have QO2 := row_call b2 QO
      have HE2 := row_call b2 HE.out
      have HZ2 := row_call b2 HZ.out
      have HN2 := row_call b2 HN.out
      have B2 := below_call b2 BK
      clear b2 HE HZ HN BK QO
      have QO3 := row_put (cs' := vals (bytesN (p * p).val)) QO2
      have QE3 := row_put_other (cs := vals (bytesN (p * p).val)) HE2 hn1
      have HZ3 := Lib.hid (row_put_other (cs := vals (bytesN (p * p).val)) HZ2 hn2)
      have HN3 := row_put_other (cs := vals (bytesN (p * p).val)) HN2 hn0
      have B3 := below_setRow B2 hn3 (vals (bytesN (p * p).val))
      have cb := (row_cell QE3 (j / 8)).trans (by rw [vals_get (by rw [bytesN_len]; omega), nth_bytesN _ _ (by omega)])
      have HE3 := Lib.hid QE3
      clear QE3 HE2 HZ2 HN2 B2
      have t8 : ((j : Int)).tmod 8 = (j : Int) % 8 := Int.tmod_eq_emod_of_nonneg (by omega)
      have hby := byteOf_lt V (j / 8)
      have hnb := nat_bit V j
      have hq : (((byteOf V (j / 8) : Nat) : Int) / 2 ^ (j % 8)) = ((byteOf V (j / 8) / 2 ^ (j % 8) : Nat) : Int) := by push_cast; rfl
      have hq2 : byteOf V (j / 8) / 2 ^ (j % 8) < 256 := Nat.lt_of_le_of_lt (Nat.div_le_self _ _) hby
      by_cases hbit : V / 2 ^ j % 2 = 1
      · have HST2 := Lib.hid (HST.out.trans (if_pos hbit))
        have hm : ((((byteOf V (j / 8) : Nat) : Int) / 2 ^ (j % 8)).tmod 2 == 1) = true := by
          rw [hq]
          generalize byteOf V (j / 8) / 2 ^ (j % 8) = q at hnb ⊢
          rw [Int.tmod_eq_emod_of_nonneg (Int.natCast_nonneg _)]
          simp only [beq_iff_eq]
          omega
        clear HST hq hnb
        go_wp2_with (first | (refine st_row rfl 29 (.tmp 5) _ rfl _ _ (by rfl) (by rfl) _ _ QO2 32 tNum (by rw [vals_size, bytesN_len]) (by rw [vals_size, bytesN_len]) (vals_one _) ?_) | (refine ld_row rfl 29 (.tmp 5) rfl _ (by rfl) _ _ QO3 32 tNum (by rw [vals_size, bytesN_len]) ?_) | (refine ld_row rfl 29 (.tmp 2) rfl _ (by rfl) _ _ HN3 32 tNum (by rw [vals_size, bytesN_len]) ?_))
        refine (mul08_any (p * p) n _).mono ?_
        rintro e w3 ⟨rfl, b3⟩
        have QO4 := row_call b3 QO3
        have HE4 := row_call b3 HE3.out
        have HZ4 := row_call b3 HZ3.out
        have HN4 := row_call b3 HN3
        have B4 := below_call b3 B3
        clear b3 HE3 HZ3 HN3 B3 QO3 QO2 cb hm
        have K1 := Lib.hid (row_put_other (cs := vals (bytesN (p * p * n).val)) HN4 hn0)
        have K2 := Lib.hid (row_put_other (cs := vals (bytesN (p * p * n).val)) HE4 hn1)
        have K3 := Lib.hid (row_put_other (cs := vals (bytesN (p * p * n).val)) HZ4 hn2)
        have K4 := Lib.hid (row_put (cs' := vals (bytesN (p * p * n).val)) QO4)
        have B5 := below_setRow B4 hn3 (vals (bytesN (p * p * n).val))
        go_wp2_with (refine st_row rfl 29 (.tmp 5) _ rfl _ _ (by rfl) (by rfl) _ _ QO4 32 tNum (by rw [vals_size, bytesN_len]) (by rw [vals_size, bytesN_len]) (vals_one _) ?_)
        go_roundw
        case rel => exact ⟨j, by omega, rfl, K1.out, K2.out, K3.out, by rw [HST2.out]; exact K4.out, B5⟩
        case measure => simp [intOf]
      · have HST2 := Lib.hid (HST.out.trans (if_neg hbit))
        have hm : ((((byteOf V (j / 8) : Nat) : Int) / 2 ^ (j % 8)).tmod 2 == 1) = false := by
          rw [hq]
          generalize byteOf V (j / 8) / 2 ^ (j % 8) = q at hnb ⊢
          rw [Int.tmod_eq_emod_of_nonneg (Int.natCast_nonneg _)]
          simp only [beq_eq_false_iff_ne]
          omega
        have K1 := Lib.hid HN3
        have K4 := Lib.hid QO3
        clear HST hq hnb HN3 QO3
        go_wp2_with (refine st_row rfl 29 (.tmp 5) _ rfl _ _ (by rfl) (by rfl) _ _ QO2 32 tNum (by rw [vals_size, bytesN_len]) (by rw [vals_size, bytesN_len]) (vals_one _) ?_)
        go_roundw
        case rel => exact ⟨j, by omega, rfl, K1.out, HE3.out, HZ3.out, by rw [HST2.out]; exact K4.out, B3⟩
        case measure => simp [intOf]
end Go.Proofs.Ytciakfhjjnmeeaa

namespace Go.Proofs.Ytciakfhjjnmeeaa
open Go.RowKit Nt

theorem tNine : RowT Try.prog 131 16 := ⟨_, Try.underlying131, rfl, by kernel_rfl⟩

/-- What carrying leaves: sixteen digits, and what was beyond them counted 38 times in the first one. -/
def Car9 (l L : List Int) : Prop := ∃ r c, Norm r ∧ dnum r + 65536 ^ 16 * c = dnum l ∧ L = r.set 0 (nth r 0 + 38 * c)

/-- The digits while they are carried. -/
def mid9 (l A : List Int) (c : Int) (k : Nat) : List Int := if k < 16 then A ++ (nth l k + c) :: l.drop (k + 1) else A.set 0 (nth A 0 + 38 * c)

theorem mid_step {l A : List Int} {c d : Int} {k : Nat} (hl : l.length = 16) (hA : A.length = k) (hk : k < 15) (v v2 : Int) (hv2 : v2 = nth l (k + 1) + d) :
    ((mid9 l A c k).set k v).set (k + 1) v2 = mid9 l (A ++ [v]) d (k + 1) := by
  rw [mid9, mid9, if_pos (by omega), if_pos (by omega), pre_set _ _ _ _ _ hA, drop_nth l (k + 1) (by omega), pre_set _ _ _ _ _ (by simp [hA]), hv2, List.append_assoc]
  rfl
theorem mid_last {l A : List Int} {c d : Int} (hl : l.length = 16) (hA : A.length = 15) (v : Int) : ((mid9 l A c 15).set 15 v).set 0 (nth A 0 + 38 * d) = mid9 l (A ++ [v]) d 16 := by
  rw [mid9, mid9, if_pos (by omega), if_neg (by omega), pre_set _ _ _ _ _ hA, List.drop_of_length_le (by omega), List.append_nil]
  have : nth (A ++ [v]) 0 = nth A 0 := by
    cases A with
    | nil => simp at hA
    | cons x r => rfl
  rw [this]
theorem mid_len {l A : List Int} {c : Int} {k : Nat} (hl : l.length = 16) (hA : A.length = k) (hk : k ≤ 16) : (mid9 l A c k).length = 16 := by
  rw [mid9]
  split
  · simp [hA, hl]; omega
  · simp [hA]; omega
theorem mid_at {l A : List Int} {c : Int} {k : Nat} (hA : A.length = k) (hk : k < 16) : nth (mid9 l A c k) k = nth l k + c := by
  rw [mid9, if_pos hk, pre_nth _ _ _ _ hA]
theorem mid_next {l A : List Int} {c : Int} {k : Nat} (hl : l.length = 16) (hA : A.length = k) (hk : k < 15) : nth (mid9 l A c k) (k + 1) = nth l (k + 1) := by
  rw [mid9, if_pos (by omega), drop_nth l (k + 1) (by omega)]
  have e : A ++ (nth l k + c) :: nth l (k + 1) :: l.drop (k + 1 + 1) = (A ++ [nth l k + c]) ++ nth l (k + 1) :: l.drop (k + 1 + 1) := by simp
  rw [e, pre_nth _ _ _ _ (by simp [hA])]
theorem mid_zero {l A : List Int} {c : Int} (hA : A.length = 15) : nth (mid9 l A c 15) 0 = nth A 0 := by
  rw [mid9, if_pos (by omega)]
  cases A with
  | nil => simp at hA
  | cons x r => rfl

set_option maxHeartbeats 1000000 in
set_option maxRecDepth 100000 in
theorem carry9_any (l : List Int) (w : World) (hl : l.length = 16) (hb : ∀ x ∈ l, -36028797018963968 ≤ x ∧ x ≤ 36028797018963968) :
    Calls Try.prog 119 #[.agg (valsK .i64 l)] w fun e w' => ∃ L, e = .returned (.agg (valsK .i64 L)) ∧ Car9 l L ∧ Below w.heap.size w w' := by
  have HL := Lib.hid hl
  have HBD := Lib.hid hb
  clear hl hb
  go_enter Try.func119, Try.ntmps119
  go_wp2_with fail
  go_loopw [3] (fun i wr => ∃ (k : Nat) (c : Int) (A : List Int), k ≤ 16 ∧ i = .int .i64 k ∧ A.length = k ∧ (∀ x ∈ A, 0 ≤ x ∧ x < 65536) ∧ (-1099511627776 ≤ c ∧ c ≤ 1099511627776) ∧ dnum A + 65536 ^ k * c = dnum (l.take k) ∧ wr.heap[w.heap.size]? = some (.cells (valsK .i64 (mid9 l A c k)) 131 (0, 0)) ∧ wr.heap[w.heap.size + 1]? = some (.cells (valsK .i64 z16) 131 (0, 0)) ∧ Below w.heap.size w wr) (fun i _ => 16 - (intOf i).toNat)
  case atStart => exact ⟨0, 0, [], by omega, rfl, rfl, (fun x hx => by cases hx), by omega, by simp [dnum], by rw [show mid9 l [] 0 0 = l from by rw [mid9, if_pos (by omega)]; show (nth l 0 + 0) :: l.drop 1 = l; rw [Int.add_zero, ← drop_nth l 0 (by rw [HL.out]; omega)]; rfl]; exact new2_0 .., new2_1 .., by go_grown⟩
  case round =>
    obtain ⟨k, c, A, hk, rfl, hA, hN, hc, hd, Ra, Rb, Bk⟩ := hrel
    by_cases hlt : k < 16
    · have hx := HBD.out (nth l k) (by rw [nth_get (by rw [HL.out]; exact hlt)]; exact List.getElem_mem _)
      have hml := mid_len (c := c) HL.out hA (by omega)
      have ca := (row_cell Ra k).trans (valsK_get (by rw [hml]; exact hlt))
      rw [mid_at hA hlt] at ca
      have fa := row_free Ra
      have HD := Lib.hid (car_step (by rw [HL.out]; exact hlt) hA hd)
      have e1 : nth l k + c - (nth l k + c) / 65536 * 65536 = (nth l k + c) % 65536 := by have := Int.mul_ediv_add_emod (nth l k + c) 65536; omega
      have HN2 := Lib.hid (show ∀ x ∈ A ++ [nth l k + c - (nth l k + c) / 65536 * 65536], 0 ≤ x ∧ x < 65536 from fun x hx' => by
        rw [List.mem_append] at hx'
        rcases hx' with h | h
        · exact hN x h
        · rw [List.mem_singleton] at h; rw [h, e1]; omega)
      have HB := Lib.hid Rb
      have HA := Lib.hid hA
      rw [← e1] at HD
      have hcd : -1099511627776 ≤ (nth l k + c) / 65536 ∧ (nth l k + c) / 65536 ≤ 1099511627776 := by omega
      have HCD := Lib.hid hcd
      by_cases h15 : k < 15
      · have cb := (row_cell Ra (k + 1)).trans (valsK_get (by rw [hml]; omega))
        rw [mid_next HL.out hA h15] at cb
        have hy := HBD.out (nth l (k + 1)) (by rw [nth_get (by rw [HL.out]; omega)]; exact List.getElem_mem _)
        have S2 := row_set (i := k + 1) (v := .int .i64 (nth l (k + 1) + (nth l k + c) / 65536)) (row_set (i := k) (v := .int .i64 (nth l k + c - (nth l k + c) / 65536 * 65536)) Ra)
        rw [valsK_set, valsK_set, mid_step HL.out hA h15 _ _ rfl] at S2
        have HS := Lib.hid S2
        clear Ra Rb hd hA hN S2 e1 hml
        generalize nth l k + c = q at *
        go_wp2_with fail
        go_roundw
        case rel => exact ⟨k + 1, q / 65536, A ++ [q - q / 65536 * 65536], by omega, by go_num, by simp [HA.out], HN2.out, HCD.out, HD.out, HS.out, row_set_other (row_set_other HB.out (by omega)) (by omega), by go_grown⟩
        case measure => simp [intOf]; omega
      · obtain rfl : k = 15 := by omega
        have cb := (row_cell Ra 0).trans (valsK_get (by rw [hml]; omega))
        rw [mid_zero hA] at cb
        have hy := hN (nth A 0) (by rw [nth_get (by omega)]; exact List.getElem_mem _)
        have S2 := row_set (i := 0) (v := .int .i64 (nth A 0 + 38 * ((nth l 15 + c) / 65536))) (row_set (i := 15) (v := .int .i64 (nth l 15 + c - (nth l 15 + c) / 65536 * 65536)) Ra)
        rw [valsK_set, valsK_set, mid_last HL.out hA] at S2
        have HS := Lib.hid S2
        clear Ra Rb hd hA hN S2 e1 hml
        generalize nth l 15 + c = q at *
        generalize nth A 0 = a0 at *
        go_wp2_with fail
        go_roundw
        case rel => exact ⟨16, q / 65536, A ++ [q - q / 65536 * 65536], by omega, rfl, by simp [HA.out], HN2.out, HCD.out, HD.out, HS.out, row_set_other (row_set_other HB.out (by omega)) (by omega), by go_grown⟩
        case measure => simp [intOf]
    · obtain rfl : k = 16 := by omega
      rw [List.take_of_length_le (by rw [HL.out]; omega)] at hd
      have hml := mid_len (c := c) HL.out hA (by omega)
      have e16 : mid9 l A c 16 = A.set 0 (nth A 0 + 38 * c) := by rw [mid9, if_neg (by omega)]
      have HC9 := Lib.hid (show Car9 l (mid9 l A c 16) from ⟨A, c, ⟨hA, hN⟩, hd, e16⟩)
      have HML := Lib.hid hml
      clear hd hA hN e16 hml
      generalize mid9 l A c 16 = L at *
      go_wp2_with (first | (refine ld_row rfl 131 (.tmp 1) rfl _ (by rfl) _ _ Ra 16 tNine (by rw [valsK_size, HML.out]) ?_) | (refine st_row rfl 131 (.tmp 2) _ rfl _ _ (by rfl) (by rfl) _ _ Rb 16 tNine (by rw [valsK_size, HML.out]) (by rfl) (valsK_one _ _) ?_))
      refine ret_row rfl _ _ _ rfl (row_put Rb) 16 tNine (by rw [valsK_size, HML.out]) rfl ?_
      exact ⟨L, rfl, HC9.out, below_setRow Bk (by omega) _⟩
end Go.Proofs.Ytciakfhjjnmeeaa

namespace Go.Proofs.Ytciakfhjjnmeeaa
open Go.RowKit Nt

theorem dnum_zip (f : Int → Int → Int) (s : Int) (hf : ∀ x y, f x y = x + s * y) : ∀ a b : List Int, a.length = b.length → dnum (List.zipWith f a b) = dnum a + s * dnum b
  | [], [], _ => by simp [dnum]
  | x :: a, y :: b, h => by
    have ih := dnum_zip f s hf a b (by simpa using h)
    simp only [List.zipWith_cons_cons, dnum, ih, hf]
    grind
  | [], _ :: _, h => by simp at h
  | _ :: _, [], h => by simp at h
theorem nth_zip (f : Int → Int → Int) (a b : List Int) (k : Nat) (ha : k < a.length) (hb : k < b.length) : nth (List.zipWith f a b) k = f (nth a k) (nth b k) := by
  rw [nth_get ha, nth_get hb, nth_get (by simp; omega), List.getElem_zipWith]
def addL (a b : List Int) : List Int := List.zipWith (fun x y => x + y) a b
def subL (a b : List Int) : List Int := List.zipWith (fun x y => x - y) a b
theorem addL_num {a b : List Int} (h : a.length = b.length) : dnum (addL a b) = dnum a + dnum b := by rw [addL, dnum_zip _ 1 (fun x y => by omega) a b h]; omega
theorem subL_num {a b : List Int} (h : a.length = b.length) : dnum (subL a b) = dnum a - dnum b := by rw [subL, dnum_zip _ (-1) (fun x y => by omega) a b h]; omega

set_option maxHeartbeats 1000000 in
set_option maxRecDepth 100000 in
theorem plus9_any (a b : List Int) (w : World) (ha : a.length = 16) (hb : b.length = 16) (ba : ∀ x ∈ a, -1099511627776 ≤ x ∧ x ≤ 1099511627776) (bb : ∀ x ∈ b, -1099511627776 ≤ x ∧ x ≤ 1099511627776) :
    Calls Try.prog 117 #[.agg (valsK .i64 a), .agg (valsK .i64 b)] w (Gives (· = .agg (valsK .i64 (addL a b))) w) := by
  have HA := Lib.hid ha
  have HB := Lib.hid hb
  have HT := Lib.hid (show (addL a b).length = 16 by simp [addL, ha, hb])
  have HBA := Lib.hid ba
  have HBB := Lib.hid bb
  clear ha hb ba bb
  go_enter Try.func117, Try.ntmps117
  go_wp2_with fail
  go_loopw [5] (fun i wr => ∃ k : Nat, k ≤ 16 ∧ i = .int .i64 k ∧ wr.heap[w.heap.size]? = some (.cells (valsK .i64 ((addL a b).take k ++ a.drop k)) 131 (0, 0)) ∧ wr.heap[w.heap.size + 1]? = some (.cells (valsK .i64 b) 131 (0, 0)) ∧ wr.heap[w.heap.size + 2]? = some (.cells (valsK .i64 z16) 131 (0, 0)) ∧ Below w.heap.size w wr) (fun i _ => 16 - (intOf i).toNat)
  case atStart => exact ⟨0, by omega, rfl, by rw [List.take_zero, List.nil_append, List.drop_zero]; exact new3_0 .., new3_1 .., new3_2 .., by go_grown⟩
  case round =>
    obtain ⟨k, hk, rfl, Ra, Rb, Rc, Bk⟩ := hrel
    by_cases hlt : k < 16
    · have ca := (row_cell Ra k).trans (valsK_get (by rw [fill_len _ _ _ (by rw [HT.out, HA.out]) (by rw [HT.out]; omega), HA.out]; exact hlt))
      rw [fill_rest _ _ _ _ (Nat.le_refl _) (by rw [HT.out]; omega)] at ca
      have fa := row_free Ra k
      have cb := (row_cell Rb k).trans (valsK_get (by rw [HB.out]; exact hlt))
      have hx := HBA.out (nth a k) (by rw [nth_get (by rw [HA.out]; exact hlt)]; exact List.getElem_mem _)
      have hy := HBB.out (nth b k) (by rw [nth_get (by rw [HB.out]; exact hlt)]; exact List.getElem_mem _)
      have S2 := row_set (i := k) (v := .int .i64 (nth a k + nth b k)) Ra
      rw [valsK_set, show nth a k + nth b k = nth (addL a b) k from (nth_zip _ a b k (by rw [HA.out]; exact hlt) (by rw [HB.out]; exact hlt)).symm, fill_step _ _ _ (by rw [HT.out]; exact hlt) (by rw [HT.out, HA.out])] at S2
      have e2 : nth a k + nth b k = nth (addL a b) k := (nth_zip _ a b k (by rw [HA.out]; exact hlt) (by rw [HB.out]; exact hlt)).symm
      have HS := Lib.hid S2
      have HE := Lib.hid e2
      have H2 := Lib.hid Rb
      have H3 := Lib.hid Rc
      clear Ra Rb Rc S2 e2
      generalize nth a k = x at *
      generalize nth b k = y at *
      go_wp2
      go_region
      go_wp2
      go_roundw
      case rel => exact ⟨k + 1, by omega, by go_num, by rw [HE.out]; exact HS.out, row_set_other H2.out (by omega), row_set_other H3.out (by omega), by go_grown⟩
      case measure => simp [intOf]; omega
    · obtain rfl : k = 16 := by omega
      have e16 : (addL a b).take 16 ++ a.drop 16 = addL a b := by rw [List.take_of_length_le (by rw [HT.out]; omega), List.drop_of_length_le (by rw [HA.out]; omega), List.append_nil]
      rw [e16] at Ra
      generalize hLL : addL a b = L at *
      have HLL := Lib.hid hLL
      clear hLL
      go_wp2_with (first | (refine ld_row rfl 131 (.tmp 2) rfl _ (by rfl) _ _ Ra 16 tNine (by rw [valsK_size, HT.out]) ?_) | (refine st_row rfl 131 (.tmp 4) _ rfl _ _ (by rfl) (by rfl) _ _ Rc 16 tNine (by rw [valsK_size, HT.out]) (by rfl) (valsK_one _ _) ?_))
      refine ret_row rfl _ _ _ rfl (row_put Rc) 16 tNine (by rw [valsK_size, HT.out]) rfl ?_
      exact ⟨_, rfl, congrArg (fun z => Value.agg (valsK .i64 z)) HLL.out.symm, below_setRow Bk (by omega) _⟩

set_option maxHeartbeats 1000000 in
set_option maxRecDepth 100000 in
theorem minus9_any (a b : List Int) (w : World) (ha : a.length = 16) (hb : b.length = 16) (ba : ∀ x ∈ a, -1099511627776 ≤ x ∧ x ≤ 1099511627776) (bb : ∀ x ∈ b, -1099511627776 ≤ x ∧ x ≤ 1099511627776) :
    Calls Try.prog 118 #[.agg (valsK .i64 a), .agg (valsK .i64 b)] w (Gives (· = .agg (valsK .i64 (subL a b))) w) := by
  have HA := Lib.hid ha
  have HB := Lib.hid hb
  have HT := Lib.hid (show (subL a b).length = 16 by simp [subL, ha, hb])
  have HBA := Lib.hid ba
  have HBB := Lib.hid bb
  clear ha hb ba bb
  go_enter Try.func118, Try.ntmps118
  go_wp2_with fail
  go_loopw [5] (fun i wr => ∃ k : Nat, k ≤ 16 ∧ i = .int .i64 k ∧ wr.heap[w.heap.size]? = some (.cells (valsK .i64 ((subL a b).take k ++ a.drop k)) 131 (0, 0)) ∧ wr.heap[w.heap.size + 1]? = some (.cells (valsK .i64 b) 131 (0, 0)) ∧ wr.heap[w.heap.size + 2]? = some (.cells (valsK .i64 z16) 131 (0, 0)) ∧ Below w.heap.size w wr) (fun i _ => 16 - (intOf i).toNat)
  case atStart => exact ⟨0, by omega, rfl, by rw [List.take_zero, List.nil_append, List.drop_zero]; exact new3_0 .., new3_1 .., new3_2 .., by go_grown⟩
  case round =>
    obtain ⟨k, hk, rfl, Ra, Rb, Rc, Bk⟩ := hrel
    by_cases hlt : k < 16
    · have ca := (row_cell Ra k).trans (valsK_get (by rw [fill_len _ _ _ (by rw [HT.out, HA.out]) (by rw [HT.out]; omega), HA.out]; exact hlt))
      rw [fill_rest _ _ _ _ (Nat.le_refl _) (by rw [HT.out]; omega)] at ca
      have fa := row_free Ra k
      have cb := (row_cell Rb k).trans (valsK_get (by rw [HB.out]; exact hlt))
      have hx := HBA.out (nth a k) (by rw [nth_get (by rw [HA.out]; exact hlt)]; exact List.getElem_mem _)
      have hy := HBB.out (nth b k) (by rw [nth_get (by rw [HB.out]; exact hlt)]; exact List.getElem_mem _)
      have S2 := row_set (i := k) (v := .int .i64 (nth a k - nth b k)) Ra
      rw [valsK_set, show nth a k - nth b k = nth (subL a b) k from (nth_zip _ a b k (by rw [HA.out]; exact hlt) (by rw [HB.out]; exact hlt)).symm, fill_step _ _ _ (by rw [HT.out]; exact hlt) (by rw [HT.out, HA.out])] at S2
      have e2 : nth a k - nth b k = nth (subL a b) k := (nth_zip _ a b k (by rw [HA.out]; exact hlt) (by rw [HB.out]; exact hlt)).symm
      have HS := Lib.hid S2
      have HE := Lib.hid e2
      have H2 := Lib.hid Rb
      have H3 := Lib.hid Rc
      clear Ra Rb Rc S2 e2
      generalize nth a k = x at *
      generalize nth b k = y at *
      go_wp2
      go_region
      go_wp2
      go_roundw
      case rel => exact ⟨k + 1, by omega, by go_num, by rw [HE.out]; exact HS.out, row_set_other H2.out (by omega), row_set_other H3.out (by omega), by go_grown⟩
      case measure => simp [intOf]; omega
    · obtain rfl : k = 16 := by omega
      have e16 : (subL a b).take 16 ++ a.drop 16 = subL a b := by rw [List.take_of_length_le (by rw [HT.out]; omega), List.drop_of_length_le (by rw [HA.out]; omega), List.append_nil]
      rw [e16] at Ra
      generalize hLL : subL a b = L at *
      have HLL := Lib.hid hLL
      clear hLL
      go_wp2_with (first | (refine ld_row rfl 131 (.tmp 2) rfl _ (by rfl) _ _ Ra 16 tNine (by rw [valsK_size, HT.out]) ?_) | (refine st_row rfl 131 (.tmp 4) _ rfl _ _ (by rfl) (by rfl) _ _ Rc 16 tNine (by rw [valsK_size, HT.out]) (by rfl) (valsK_one _ _) ?_))
      refine ret_row rfl _ _ _ rfl (row_put Rc) 16 tNine (by rw [valsK_size, HT.out]) rfl ?_
      exact ⟨_, rfl, congrArg (fun z => Value.agg (valsK .i64 z)) HLL.out.symm, below_setRow Bk (by omega) _⟩

def smallL (x : Int) : List Int := x :: List.replicate 15 0
theorem smallL_num (x : Int) : dnum (smallL x) = x := by
  have e : dnum (smallL x) = x + 65536 * dnum (List.replicate 15 0) := rfl
  have e2 : dnum (List.replicate 15 0) = 0 := by decide
  rw [e, e2]; omega
theorem valsK_set_z (x : Int) : (valsK .i64 z16).setIfInBounds 0 (.int .i64 x) = valsK .i64 (smallL x) := by rw [valsK_set]; rfl

set_option maxHeartbeats 1000000 in
set_option maxRecDepth 100000 in
theorem small9_any (x : Int) (w : World) : Calls Try.prog 116 #[.int .i64 x] w (Gives (· = .agg (valsK .i64 (smallL x))) w) := by
  go_enter Try.func116, Try.ntmps116
  go_wp2_with fail
  refine ret_row rfl _ _ _ rfl (new2_0 ..) 16 tNine (by rfl) rfl ?_
  exact ⟨_, rfl, rfl, by go_grown⟩

def f16 : List Int := List.replicate 16 65535
theorem f16_nth (k : Nat) (h : k < 16) : nth f16 k = 65535 := by rw [nth_get (by exact h)]; exact List.getElem_replicate _
/-- The digits of 2^255 - 19. -/
def primeL : List Int := (f16.set 0 65517).set 15 32767
theorem primeL_num : dnum primeL = 57896044618658097711785492504343953926634992332820282019728792003956564819949 := by decide

set_option maxHeartbeats 1000000 in
set_option maxRecDepth 100000 in
theorem prime9_any (w : World) : Calls Try.prog 121 #[] w (Gives (· = .agg (valsK .i64 primeL)) w) := by
  go_enter Try.func121, Try.ntmps121
  go_wp2_with fail
  go_loopw [2] (fun i wr => ∃ k : Nat, k ≤ 16 ∧ i = .int .i64 k ∧ wr.heap[w.heap.size]? = some (.cells (valsK .i64 z16) 131 (0, 0)) ∧ wr.heap[w.heap.size + 1]? = some (.cells (valsK .i64 (f16.take k ++ z16.drop k)) 131 (0, 0)) ∧ Below w.heap.size w wr) (fun i _ => 16 - (intOf i).toNat)
  case atStart => exact ⟨0, by omega, rfl, new2_0 .., new2_1 .., by go_grown⟩
  case round =>
    obtain ⟨k, hk, rfl, Ra, Rb, Bk⟩ := hrel
    by_cases hlt : k < 16
    · have cz := (row_cell Rb k).trans (valsK_get (by rw [fill_len f16 z16 k rfl hk]; exact hlt))
      have fc := row_free Rb k
      have HS := Lib.hid (row_set (i := k) (v := .int .i64 65535) Rb)
      have HA := Lib.hid Ra
      clear Ra Rb
      go_wp2
      go_roundw
      case rel =>
        refine ⟨k + 1, by omega, by go_num, row_set_other HA.out (by omega), ?_, by go_grown⟩
        refine HS.out.trans ?_
        rw [valsK_set, ← f16_nth k hlt, fill_step f16 z16 k hlt rfl]
      case measure => simp [intOf]; omega
    · obtain rfl : k = 16 := by omega
      have c0 := (row_cell Rb 0).trans (valsK_get (by decide))
      have c15 := (row_cell Rb 15).trans (valsK_get (by decide))
      have ff := row_free Rb
      have HA := Lib.hid Ra
      have R2 := row_set (i := 15) (v := .int .i64 32767) (row_set (i := 0) (v := .int .i64 65517) Rb)
      rw [valsK_set, valsK_set] at R2
      have HR := Lib.hid R2
      clear Ra Rb R2
      go_wp2_with (first | (refine ld_row rfl 131 (.tmp 1) rfl _ (by rfl) _ _ HR.out 16 tNine (by rw [valsK_size]; rfl) ?_) | (refine st_row rfl 131 (.tmp 0) _ rfl _ _ (by rfl) (by rfl) _ _ (row_set_other (row_set_other HA.out (by omega)) (by omega)) 16 tNine (by rw [valsK_size]; rfl) (by rfl) (valsK_one _ _) ?_))
      refine ret_row rfl _ _ _ rfl (row_put (row_set_other (row_set_other HA.out (by omega)) (by omega))) 16 tNine (by rw [valsK_size]; rfl) rfl ?_
      exact ⟨_, rfl, rfl, below_setRow (by go_grown) (by omega) _⟩

/-- The digits of 32 bytes, without the highest bit. -/
def ofL (l : List Int) : List Int := (dgs l).set 15 (nth (dgs l) 15 % 32768)

set_option maxHeartbeats 1000000 in
set_option maxRecDepth 100000 in
theorem of9_any (l : List Int) (w : World) (hl : l.length = 32) (hb : Byt l) :
    Calls Try.prog 115 #[.agg (vals l)] w (Gives (· = .agg (valsK .i64 (ofL l))) w) := by
  have HL := Lib.hid hl
  have hD := dgs_norm l hl hb
  have HD := Lib.hid hD.1
  have h15 := hD.nth 15
  have H15 := Lib.hid h15
  clear hl hD h15
  go_enter Try.func115, Try.ntmps115
  go_wp2_with fail
  go_loopw [4] (fun i wr => ∃ k : Nat, k ≤ 16 ∧ i = .int .i64 k ∧ wr.heap[w.heap.size]? = some (.cells (vals l) 22 (0, 0)) ∧ wr.heap[w.heap.size + 1]? = some (.cells (valsK .i64 z16) 131 (0, 0)) ∧ wr.heap[w.heap.size + 2]? = some (.cells (valsK .i64 ((dgs l).take k ++ z16.drop k)) 131 (0, 0)) ∧ Below w.heap.size w wr) (fun i _ => 16 - (intOf i).toNat)
  case atStart =>
    exact ⟨0, by omega, rfl, new3_0 .., new3_1 .., new3_2 .., by go_grown⟩
  case round =>
    obtain ⟨k, hk, rfl, Ra, Rb, Rc, Bk⟩ := hrel
    by_cases hlt : k < 16
    · have c0 := (row_cell Ra (2 * k)).trans (vals_get (by rw [HL.out]; omega))
      have c1 := (row_cell Ra (2 * k + 1)).trans (vals_get (by rw [HL.out]; omega))
      have cz := (row_cell Rc k).trans (valsK_get (by rw [fill_len _ _ _ (by rw [HD.out]; rfl) (by rw [HD.out]; omega)]; exact hlt))
      have fc := row_free Rc k
      have b0 := hb.nth (2 * k)
      have b1 := hb.nth (2 * k + 1)
      have HS := Lib.hid (row_set (i := k) (v := .int .i64 (nth l (2 * k) + 256 * nth l (2 * k + 1))) Rc)
      have HA := Lib.hid Ra
      have HB := Lib.hid Rb
      clear Ra Rb Rc
      go_wp2
      go_region
      go_wp2
      go_roundw
      case rel =>
        refine ⟨k + 1, by omega, by go_num, row_set_other HA.out (by omega), row_set_other HB.out (by omega), ?_, by go_grown⟩
        refine HS.out.trans ?_
        rw [valsK_set, ← dgs_nth k l (by rw [HL.out]; omega), fill_step _ _ _ (by rw [HD.out]; omega) (by rw [HD.out]; rfl)]
      case measure => simp [intOf]; omega
    · obtain rfl : k = 16 := by omega
      have e16 : (dgs l).take 16 ++ z16.drop 16 = dgs l := by rw [List.take_of_length_le (by rw [HD.out]; omega)]; exact List.append_nil _
      rw [e16] at Rc
      have c15 := (row_cell Rc 15).trans (valsK_get (by rw [HD.out]; omega))
      have f15 := row_free Rc 15
      have h15 := H15.out
      have R2 := row_set (i := 15) (v := .int .i64 (nth (dgs l) 15 % 32768)) Rc
      rw [valsK_set] at R2
      have hT : (ofL l).length = 16 := by rw [ofL, List.length_set, HD.out]
      have HT := Lib.hid hT
      have HR := Lib.hid (show _ = some (Obj.cells (valsK .i64 (ofL l)) 131 (0, 0)) from R2)
      have HRb := Lib.hid (row_set_other (i := 15) (v := .int .i64 (nth (dgs l) 15 % 32768)) (g := w.heap.size + 2) Rb (by omega))
      have HBk := Lib.hid (show Below w.heap.size w (wr.setCell ⟨w.heap.size + 2, 15, none⟩ (.int .i64 (nth (dgs l) 15 % 32768))) from by go_grown)
      have t15 : (nth (dgs l) 15).tmod 32768 = nth (dgs l) 15 % 32768 := Int.tmod_eq_emod_of_nonneg h15.1
      clear Ra Rb Rc R2 hT Bk
      generalize hLL : ofL l = L at *
      have HLL := Lib.hid hLL
      clear hLL
      generalize nth (dgs l) 15 = x at *
      go_wp2_with (first | (refine ld_row rfl 131 (.tmp 3) rfl _ (by rfl) _ _ HR.out 16 tNine (by rw [valsK_size, HT.out]) ?_) | (refine st_row rfl 131 (.tmp 2) _ rfl _ _ (by rfl) (by rfl) _ _ HRb.out 16 tNine (by rw [valsK_size, HT.out]) (by rfl) (valsK_one _ _) ?_))
      refine ret_row rfl _ _ _ rfl (row_put HRb.out) 16 tNine (by rw [valsK_size, HT.out]) rfl ?_
      exact ⟨_, rfl, congrArg (fun z => Value.agg (valsK .i64 z)) HLL.out.symm, below_setRow HBk.out (by omega) _⟩

set_option maxHeartbeats 1000000 in
set_option maxRecDepth 100000 in
theorem clamp9_any (L : List Int) (w : World) (hl : L.length = 32) (hb : Byt L) : Calls Try.prog 52 #[.agg (vals L)] w (Gives (· = .agg (vals (clampL L))) w) := by
  have hcl := Lib.hid ((clampL_len L).trans hl)
  have b0 := hb.nth 0
  have b31 := hb.nth 31
  have a0 : (nth L 0).tdiv 8 = nth L 0 / 8 := Int.tdiv_eq_ediv_of_nonneg b0.1
  have a31 : (nth L 31).tmod 64 = nth L 31 % 64 := Int.tmod_eq_emod_of_nonneg b31.1
  have v0 : (vals L)[0]? = some (.int .u8 (nth L 0)) := vals_get (by omega)
  have s0 : (vals L).setIfInBounds 0 (.int .u8 (nth L 0 / 8 * 8)) = vals (L.set 0 (nth L 0 / 8 * 8)) := vals_set _ _ _
  have v31 : (vals (L.set 0 (nth L 0 / 8 * 8)))[31]? = some (.int .u8 (nth L 31)) := by
    rw [vals_get (by rw [List.length_set]; omega)]
    simp [nth]
  have s31 : (vals (L.set 0 (nth L 0 / 8 * 8))).setIfInBounds 31 (.int .u8 (nth L 31 % 64 + 64)) = vals (clampL L) := vals_set _ _ _
  clear hl hb
  generalize L.set 0 (nth L 0 / 8 * 8) = L1 at *
  generalize nth L 0 = x0 at *
  generalize nth L 31 = x31 at *
  generalize clampL L = L2 at *
  go_enter Try.func52, Try.ntmps52
  go_wp2_with (first | (refine ld_row rfl 68 (.tmp 1) rfl _ (by rfl) _ _ (new2_0 ..) 32 tKey (by rw [vals_size, hcl.out]) ?_) | (refine st_row rfl 68 (.tmp 2) _ rfl _ _ (by rfl) (by rfl) _ _ (new2_1 ..) 32 tKey (by rw [vals_size, hcl.out]) (by rfl) (vals_one _) ?_))
  refine ret_row rfl _ _ _ rfl (row_put (new2_1 ..)) 32 tKey (by rw [vals_size, hcl.out]) rfl ?_
  exact ⟨_, rfl, rfl, below_setRow (by go_grown) (by omega) _⟩
end Go.Proofs.Ytciakfhjjnmeeaa

namespace Go.Proofs.Ytciakfhjjnmeeaa
open Nt

theorem dnum_abs : ∀ (l : List Int) (B : Int), 0 ≤ B → (∀ x ∈ l, -B ≤ x ∧ x ≤ B) → -(B * (65536 ^ l.length - 1)) ≤ 65535 * dnum l ∧ 65535 * dnum l ≤ B * (65536 ^ l.length - 1)
  | [], B, hB, _ => by simp [dnum]
  | x :: r, B, hB, h => by
    have hx := h x (by simp)
    have ih := dnum_abs r B hB (fun y hy => h y (by simp [hy]))
    simp only [dnum, List.length_cons, Int.pow_succ]
    generalize (65536 : Int) ^ r.length = S at *
    have e : B * (S * 65536 - 1) = 65536 * (B * (S - 1)) + 65535 * B := by grind
    rw [e]
    generalize B * (S - 1) = T at *
    omega

/-- A tight list of the number n: normal digits but for the first. -/
def Tg (n : F) (l : List Int) : Prop := l.length = 16 ∧ (∀ j, 1 ≤ j → j < 16 → 0 ≤ nth l j ∧ nth l j < 65536) ∧ (-38 ≤ nth l 0 ∧ nth l 0 ≤ 65573) ∧ dnum l % PI = (n.val : Int)
/-- A wide one. -/
def Wide9 (n : F) (l : List Int) : Prop := l.length = 16 ∧ (∀ j, -131146 ≤ nth l j ∧ nth l j ≤ 131146) ∧ dnum l % PI = (n.val : Int)

theorem nth_past (l : List Int) (j : Nat) (h : l.length ≤ j) : nth l j = 0 := by simp [nth, List.getElem?_eq_none h]
theorem mem_nth {l : List Int} {x : Int} (h : x ∈ l) : ∃ j, j < l.length ∧ nth l j = x := by
  obtain ⟨j, hj, rfl⟩ := List.getElem_of_mem h
  exact ⟨j, hj, nth_get hj⟩
theorem Wide9.mem {n : F} {l : List Int} (h : Wide9 n l) : ∀ x ∈ l, -131146 ≤ x ∧ x ≤ 131146 := fun x hx => by
  obtain ⟨j, _, rfl⟩ := mem_nth hx; exact h.2.1 j
theorem Tg.wide {n : F} {l : List Int} (h : Tg n l) : Wide9 n l := ⟨h.1, fun j => by
  by_cases h0 : j = 0
  · subst h0; have := h.2.2.1; omega
  · by_cases hj : j < 16
    · have := h.2.1 j (by omega) hj; omega
    · rw [nth_past l j (by rw [h.1]; omega)]; omega, h.2.2.2⟩
theorem Tg.mem {n : F} {l : List Int} (h : Tg n l) : ∀ x ∈ l, -38 ≤ x ∧ x ≤ 65573 := fun x hx => by
  obtain ⟨j, hj, rfl⟩ := mem_nth hx
  rw [h.1] at hj
  by_cases h0 : j = 0
  · subst h0; exact h.2.2.1
  · have := h.2.1 j (by omega) hj; omega

theorem pow16 : (65536 : Int) ^ 16 = 115792089237316195423570985008687907853269984665640564039457584007913129639936 := by decide
theorem norm_bound {r : List Int} (h : Norm r) : 0 ≤ dnum r ∧ dnum r < 115792089237316195423570985008687907853269984665640564039457584007913129639936 := by
  have := dnum_bound r h.2
  rw [h.1, pow16] at this
  exact this
theorem dnum_put0 (r : List Int) (h : r.length = 16) (v : Int) : dnum (r.set 0 v) = dnum r + (v - nth r 0) := by
  have := dnum_set r 0 v (by omega)
  simpa using this
theorem Car9.num {l L : List Int} (h : Car9 l L) : dnum L % PI = dnum l % PI := by
  obtain ⟨r, c, hr, hd, rfl⟩ := h
  rw [dnum_put0 _ hr.1, ← hd, pow16]
  have e : dnum r + (nth r 0 + 38 * c - nth r 0) = dnum r + 115792089237316195423570985008687907853269984665640564039457584007913129639936 * c + PI * (-2 * c) := by simp only [PI]; omega
  rw [e, Int.add_mul_emod_self_left]
theorem Car9.len {l L : List Int} (h : Car9 l L) : L.length = 16 := by
  obtain ⟨r, c, hr, hd, rfl⟩ := h
  rw [List.length_set, hr.1]
theorem set0_nth (r : List Int) (v : Int) (h : r.length = 16) : nth (r.set 0 v) 0 = v ∧ ∀ j, 1 ≤ j → nth (r.set 0 v) j = nth r j := by
  refine ⟨nth_set_self r 0 v (by omega), fun j hj => ?_⟩
  rw [nth_set r 0 j v (by omega), if_neg (by omega)]

/-- What one carrying leaves. -/
theorem Car9.once {l L : List Int} (h : Car9 l L) (hl : l.length = 16) (hb : ∀ x ∈ l, -36028797018963968 ≤ x ∧ x ≤ 36028797018963968) :
    (∀ j, 1 ≤ j → j < 16 → 0 ≤ nth L j ∧ nth L j < 65536) ∧ (-41782000000000 ≤ nth L 0 ∧ nth L 0 ≤ 41782000000000) ∧ (∀ x ∈ L, -36028797018963968 ≤ x ∧ x ≤ 36028797018963968) ∧
      -41782000000000 ≤ dnum L ∧ dnum L ≤ 115792089237316195423570985008687907853269984665640564039457584049695129639936 := by
  have ha := dnum_abs l 36028797018963968 (by omega) hb
  have hlen := h.len
  obtain ⟨r, c, hr, hd, rfl⟩ := h
  rw [hl, pow16] at ha
  rw [pow16] at hd
  have hn := norm_bound hr
  have hc : -1099511627776 ≤ c ∧ c ≤ 1099511627776 := by omega
  obtain ⟨e0, e1⟩ := set0_nth r (nth r 0 + 38 * c) hr.1
  have r0 := hr.nth 0
  have h1 : ∀ j, 1 ≤ j → j < 16 → 0 ≤ nth (r.set 0 (nth r 0 + 38 * c)) j ∧ nth (r.set 0 (nth r 0 + 38 * c)) j < 65536 := fun j hj _ => by rw [e1 j hj]; exact hr.nth j
  have h2 : -41782000000000 ≤ nth (r.set 0 (nth r 0 + 38 * c)) 0 ∧ nth (r.set 0 (nth r 0 + 38 * c)) 0 ≤ 41782000000000 := by rw [e0]; omega
  refine ⟨h1, h2, fun x hx => ?_, ?_⟩
  · obtain ⟨j, hj, rfl⟩ := mem_nth hx
    rw [hlen] at hj
    by_cases h0 : j = 0
    · subst h0; omega
    · have := h1 j (by omega) hj; omega
  · rw [dnum_put0 _ hr.1]; omega
/-- .. and a second one. -/
theorem Car9.tight {l L : List Int} {n : F} (h : Car9 l L) (hl : -41782000000000 ≤ dnum l ∧ dnum l ≤ 115792089237316195423570985008687907853269984665640564039457584049695129639936) (hn : dnum l % PI = (n.val : Int)) : Tg n L := by
  have hN := h.num
  have hlen := h.len
  obtain ⟨r, c, hr, hd, rfl⟩ := h
  rw [pow16] at hd
  have hb := norm_bound hr
  have hc : c = -1 ∨ c = 0 ∨ c = 1 := by omega
  obtain ⟨e0, e1⟩ := set0_nth r (nth r 0 + 38 * c) hr.1
  have r0 := hr.nth 0
  exact ⟨hlen, fun j hj _ => by rw [e1 j hj]; exact hr.nth j, by rw [e0]; omega, by rw [hN, hn]⟩
/-- Digits of a number below 2^256 are carried to normal ones. -/
theorem Car9.norm {l L : List Int} (h : Car9 l L) (hl : 0 ≤ dnum l ∧ dnum l < 115792089237316195423570985008687907853269984665640564039457584007913129639936) : Norm L := by
  obtain ⟨r, c, hr, hd, rfl⟩ := h
  rw [pow16] at hd
  have hb := norm_bound hr
  have hc : c = 0 := by omega
  subst hc
  have e : r.set 0 (nth r 0 + 38 * 0) = r := by
    have h0 : 0 < r.length := by rw [hr.1]; omega
    have e2 : nth r 0 + 38 * (0 : Int) = nth r 0 := by omega
    rw [e2, nth_get h0]
    exact List.set_getElem_self h0
  rw [e]; exact hr
theorem digit0 {r : List Int} (hr : Norm r) : nth r 0 = dnum r % 65536 := by
  have h1 := drop_nth r 0 (by rw [hr.1]; omega)
  rw [List.drop_zero] at h1
  have h2 := hr.nth 0
  rw [h1]
  have e : nth (nth r 0 :: r.drop 1) 0 = nth r 0 := rfl
  simp only [dnum]
  rw [e]; omega
theorem Tg.bound {n : F} {l : List Int} (h : Tg n l) : -38 ≤ dnum l ∧ dnum l ≤ 115792089237316195423570985008687907853269984665640564039457584007913129639973 := by
  have h1 := drop_nth l 0 (by rw [h.1]; omega)
  rw [List.drop_zero] at h1
  have hb := dnum_bound (l.drop 1) (fun x hx => by
    obtain ⟨j, hj, rfl⟩ := mem_nth hx
    rw [List.length_drop, h.1] at hj
    have e : nth (l.drop 1) j = nth l (j + 1) := by simp only [nth, List.getD_eq_getElem?_getD, List.getElem?_drop]; rw [Nat.add_comm]
    rw [e]
    exact h.2.1 (j + 1) (by omega) (by omega))
  have p15 : (65536 : Int) ^ 15 = 1766847064778384329583297500742918515827483896875618958121606201292619776 := by decide
  rw [List.length_drop, h.1, p15] at hb
  have h0 := h.2.2.1
  have e : dnum l = nth l 0 + 65536 * dnum (l.drop 1) := by
    conv => lhs; rw [h1]
    rfl
  rw [e]
  generalize dnum (l.drop 1) = q at *
  omega
/-- A tight list carried twice is normal. -/
theorem Car9.twice {n : F} {l L L2 : List Int} (ht : Tg n l) (h : Car9 l L) (h2 : Car9 L L2) : Norm L2 := by
  have ha := ht.bound
  obtain ⟨r, c, hr, hd, rfl⟩ := h
  rw [pow16] at hd
  have hb := norm_bound hr
  have hc : c = -1 ∨ c = 0 ∨ c = 1 := by omega
  have hD := dnum_put0 r hr.1 (nth r 0 + 38 * c)
  by_cases hin : 0 ≤ dnum (r.set 0 (nth r 0 + 38 * c)) ∧ dnum (r.set 0 (nth r 0 + 38 * c)) < 115792089237316195423570985008687907853269984665640564039457584007913129639936
  · exact h2.norm hin
  · obtain ⟨r2, c2, hr2, hd2, rfl⟩ := h2
    rw [pow16] at hd2
    have hb2 := norm_bound hr2
    have d0 := digit0 hr2
    generalize dnum (r.set 0 (nth r 0 + 38 * c)) = D at *
    have key : 0 ≤ nth r2 0 + 38 * c2 ∧ nth r2 0 + 38 * c2 < 65536 := by
      have hc2 : c2 = -1 ∨ c2 = 1 := by omega
      rcases hc2 with rfl | rfl
      · omega
      · omega
    refine ⟨by rw [List.length_set, hr2.1], fun x hx => ?_⟩
    rcases List.mem_or_eq_of_mem_set hx with h' | rfl
    · exact hr2.2 x h'
    · exact key
theorem Tg.tame {n : F} {l : List Int} (h : Tg n l) : ∀ x ∈ l, -36028797018963968 ≤ x ∧ x ≤ 36028797018963968 := fun x hx => by have := h.mem x hx; omega

/-! ### Sums and differences -/
theorem fin_add_emod {n m : F} {a b : Int} (ha : a % PI = (n.val : Int)) (hb : b % PI = (m.val : Int)) : (a + b) % PI = ((n + m : F).val : Int) := by
  rw [val_add, Int.natCast_emod, Int.natCast_add, ← ha, ← hb, PI_eq, ← Int.add_emod]
theorem fin_mul_emod {n m : F} {a b : Int} (ha : a % PI = (n.val : Int)) (hb : b % PI = (m.val : Int)) : (a * b) % PI = ((n * m : F).val : Int) := by
  rw [val_mul, Int.natCast_emod, Int.natCast_mul, ← ha, ← hb, PI_eq, ← Int.mul_emod]
theorem fin_sub_emod {n m : F} {a b : Int} (ha : a % PI = (n.val : Int)) (hb : b % PI = (m.val : Int)) : (a - b) % PI = ((n - m : F).val : Int) := by
  have h1 : ((n - m : F) + m) = n := by grind
  have h3 : ((a - b) % PI).toNat < P := by
    have : (P : Int) = PI := PI_eq
    have h4 := Int.emod_lt_of_pos (a - b) (show (0 : Int) < PI by decide)
    have h5 := Int.emod_nonneg (a - b) (show (PI : Int) ≠ 0 by decide)
    omega
  have h5 := Int.emod_nonneg (a - b) (show (PI : Int) ≠ 0 by decide)
  have hx : (a - b) % PI = ((⟨((a - b) % PI).toNat, h3⟩ : F).val : Int) := by
    show _ = ((((a - b) % PI).toNat : Nat) : Int)
    omega
  have h6 := fin_add_emod hx hb (n := ⟨((a - b) % PI).toNat, h3⟩)
  rw [Int.sub_add_cancel, ha] at h6
  have h7 : n = (⟨((a - b) % PI).toNat, h3⟩ : F) + m := F.ext (Int.ofNat.inj h6)
  rw [hx]
  have h8 : (⟨((a - b) % PI).toNat, h3⟩ : F) = n - m := by rw [h7]; grind
  rw [h8]
theorem addL_wide {n m : F} {a b : List Int} (ha : Tg n a) (hb : Tg m b) : Wide9 (n + m) (addL a b) := by
  refine ⟨by simp [addL, ha.1, hb.1], fun j => ?_, by rw [addL_num (ha.1.trans hb.1.symm)]; exact fin_add_emod ha.2.2.2 hb.2.2.2⟩
  by_cases hj : j < 16
  · rw [addL, nth_zip _ _ _ _ (by rw [ha.1]; exact hj) (by rw [hb.1]; exact hj)]
    have h1 := ha.mem (nth a j) (by rw [nth_get (by rw [ha.1]; exact hj)]; exact List.getElem_mem _)
    have h2 := hb.mem (nth b j) (by rw [nth_get (by rw [hb.1]; exact hj)]; exact List.getElem_mem _)
    omega
  · rw [nth_past _ _ (by simp [addL, ha.1, hb.1]; omega)]; omega
theorem subL_wide {n m : F} {a b : List Int} (ha : Tg n a) (hb : Tg m b) : Wide9 (n - m) (subL a b) := by
  refine ⟨by simp [subL, ha.1, hb.1], fun j => ?_, by rw [subL_num (ha.1.trans hb.1.symm)]; exact fin_sub_emod ha.2.2.2 hb.2.2.2⟩
  by_cases hj : j < 16
  · rw [subL, nth_zip _ _ _ _ (by rw [ha.1]; exact hj) (by rw [hb.1]; exact hj)]
    have h1 := ha.mem (nth a j) (by rw [nth_get (by rw [ha.1]; exact hj)]; exact List.getElem_mem _)
    have h2 := hb.mem (nth b j) (by rw [nth_get (by rw [hb.1]; exact hj)]; exact List.getElem_mem _)
    omega
  · rw [nth_past _ _ (by simp [subL, ha.1, hb.1]; omega)]; omega
theorem smallL_tight (x : Int) (h0 : 0 ≤ x ∧ x < 65536) (n : F) (hn : x = (n.val : Int)) : Tg n (smallL x) := by
  refine ⟨rfl, fun j h1 hj => ?_, ?_, by rw [smallL_num, hn]; exact Int.emod_eq_of_lt (by omega) (by have := n.isLt; rw [← PI_eq]; omega)⟩
  · obtain ⟨k, rfl⟩ : ∃ k, j = k + 1 := ⟨j - 1, by omega⟩
    have e : nth (smallL x) (k + 1) = nth (List.replicate 15 (0 : Int)) k := rfl
    rw [e, nth_get (by simp; omega), List.getElem_replicate]; omega
  · have e : nth (smallL x) 0 = x := rfl
    rw [e]; omega
theorem smallL_wide (x : Int) (h0 : 0 ≤ x ∧ x ≤ 131146) (n : F) (hn : x = (n.val : Int)) : Wide9 n (smallL x) := by
  refine ⟨rfl, fun j => ?_, by rw [smallL_num, hn]; exact Int.emod_eq_of_lt (by omega) (by have := n.isLt; rw [← PI_eq]; omega)⟩
  by_cases hz : j = 0
  · subst hz
    have e : nth (smallL x) 0 = x := rfl
    rw [e]; omega
  · obtain ⟨k, rfl⟩ : ∃ k, j = k + 1 := ⟨j - 1, by omega⟩
    have e : nth (smallL x) (k + 1) = nth (List.replicate 15 (0 : Int)) k := rfl
    rw [e]
    by_cases hk : k < 15
    · rw [nth_get (by simp; omega), List.getElem_replicate]; omega
    · rw [nth_past _ _ (by simp; omega)]; omega
theorem ofL_tight (l : List Int) (hl : l.length = 32) (hb : Byt l) : Tg (numF l) (ofL l) := by
  have hD := dgs_norm l hl hb
  have h15 := hD.nth 15
  have hL : (ofL l).length = 16 := by rw [ofL, List.length_set, hD.1]
  refine ⟨hL, fun j h1 hj => ?_, ?_, ?_⟩
  · rw [ofL, nth_set _ _ _ _ (by rw [hD.1]; omega)]
    split
    · omega
    · exact hD.nth j
  · rw [ofL, nth_set _ _ _ _ (by rw [hD.1]; omega), if_neg (by omega)]
    have := hD.nth 0; omega
  · have e1 : dnum (ofL l) = num l - 57896044618658097711785492504343953926634992332820282019728792003956564819968 * (nth (dgs l) 15 / 32768) := by
      rw [ofL, dnum_set _ _ _ (by rw [hD.1]; omega), dgs_num 16 l hl]
      have : (65536 : Int) ^ 15 = 1766847064778384329583297500742918515827483896875618958121606201292619776 := by decide
      rw [this]; omega
    have hn := num_bound l hb
    rw [hl] at hn
    have p : (256 : Int) ^ 32 = 115792089237316195423570985008687907853269984665640564039457584007913129639936 := by decide
    rw [p] at hn
    have e2 : dnum (ofL l) = num l % 57896044618658097711785492504343953926634992332820282019728792003956564819968 := by
      have hb2 : 0 ≤ dnum (ofL l) ∧ dnum (ofL l) < 57896044618658097711785492504343953926634992332820282019728792003956564819968 := by
        obtain ⟨A, x, hlen, hAx⟩ : ∃ A x, A.length = 15 ∧ dgs l = A ++ [x] := by
          refine ⟨(dgs l).take 15, nth (dgs l) 15, by rw [List.length_take, hD.1]; omega, ?_⟩
          have := drop_nth (dgs l) 15 (by rw [hD.1]; omega)
          rw [List.drop_of_length_le (show (dgs l).length ≤ 15 + 1 by rw [hD.1]; omega)] at this
          conv => lhs; rw [← List.take_append_drop 15 (dgs l), this]
        have hA := dnum_bound A (fun y hy => hD.2 y (by rw [hAx]; exact List.mem_append_left _ hy))
        have hs : ofL l = A ++ [x % 32768] := by
          rw [ofL, hAx, pre_nth _ _ _ _ hlen, pre_set _ _ _ _ _ hlen]; simp
        rw [hlen] at hA
        rw [hs, dnum_append, hlen]
        have p15 : (65536 : Int) ^ 15 = 1766847064778384329583297500742918515827483896875618958121606201292619776 := by decide
        rw [p15] at hA ⊢
        simp only [dnum]
        omega
      omega
    rw [e2, ← val_numF l hb]
end Go.Proofs.Ytciakfhjjnmeeaa

namespace Go.Proofs.Ytciakfhjjnmeeaa
open Go.RowKit Nt

theorem tThirtyOne : RowT Try.prog 153 31 := ⟨_, Try.underlying153, rfl, by kernel_rfl⟩
def z31 : List Int := List.replicate 31 0

/-- Products of digits gathered so far. -/
def Cv (a b : List Int) (i k : Nat) (t : List Int) : Prop :=
  t.length = 31 ∧ (∀ j, -(17199273316 * (16 * i + k : Nat)) ≤ nth t j ∧ nth t j ≤ 17199273316 * (16 * i + k : Nat)) ∧ dnum t = dnum (a.take i) * dnum b + 65536 ^ i * nth a i * dnum (b.take k)

theorem prod_bound {x y : Int} (hx : -131146 ≤ x ∧ x ≤ 131146) (hy : -131146 ≤ y ∧ y ≤ 131146) : -17199273316 ≤ x * y ∧ x * y ≤ 17199273316 := by
  have h1 : 0 ≤ (131146 - x) * (131146 + y) := Int.mul_nonneg (by omega) (by omega)
  have h2 : 0 ≤ (131146 + x) * (131146 - y) := Int.mul_nonneg (by omega) (by omega)
  have h3 : 0 ≤ (131146 - x) * (131146 - y) := Int.mul_nonneg (by omega) (by omega)
  have h4 : 0 ≤ (131146 + x) * (131146 + y) := Int.mul_nonneg (by omega) (by omega)
  have e1 : (131146 - x) * (131146 + y) = 17199273316 + 131146 * y - 131146 * x - x * y := by grind
  have e2 : (131146 + x) * (131146 - y) = 17199273316 - 131146 * y + 131146 * x - x * y := by grind
  have e3 : (131146 - x) * (131146 - y) = 17199273316 - 131146 * y - 131146 * x + x * y := by grind
  have e4 : (131146 + x) * (131146 + y) = 17199273316 + 131146 * y + 131146 * x + x * y := by grind
  omega
theorem Cv.start (a b : List Int) : Cv a b 0 0 z31 := ⟨rfl, fun j => by
  have : nth z31 j = 0 := by
    by_cases h : j < 31
    · rw [nth_get (by exact h)]; exact List.getElem_replicate _
    · exact nth_past _ _ (by show 31 ≤ j; omega)
  rw [this]; omega, by rw [show dnum z31 = 0 by decide]; simp [dnum]⟩
theorem Cv.step {a b t : List Int} {i k : Nat} (h : Cv a b i k t) (hb : b.length = 16) (pp : -17199273316 ≤ nth a i * nth b k ∧ nth a i * nth b k ≤ 17199273316) (hi : i < 16) (hk : k < 16) :
    Cv a b i (k + 1) (t.set (i + k) (nth t (i + k) + nth a i * nth b k)) := by
  obtain ⟨h1, h2, h3⟩ := h
  refine ⟨by rw [List.length_set, h1], fun j => ?_, ?_⟩
  · have := h2 j
    have := h2 (i + k)
    rw [nth_set _ _ _ _ (by omega)]
    split <;> omega
  · rw [dnum_set _ _ _ (by omega), h3, dnum_take b k (by omega), Int.pow_add]
    grind
theorem Cv.next {a b t : List Int} {i : Nat} (h : Cv a b i 16 t) (ha : a.length = 16) (hb : b.length = 16) (hi : i < 16) : Cv a b (i + 1) 0 t := by
  obtain ⟨h1, h2, h3⟩ := h
  refine ⟨h1, fun j => by have := h2 j; omega, ?_⟩
  rw [show b.take 16 = b from List.take_of_length_le (by omega)] at h3
  rw [h3, dnum_take a i (by omega)]
  simp only [List.take_zero, dnum]
  grind

/-- Thirty-one digits brought to sixteen. -/
def foldL (t : List Int) : List Int := List.zipWith (fun x y => x + 38 * y) (t.take 16) (t.drop 16 ++ [0])
theorem foldL_len {t : List Int} (h : t.length = 31) : (foldL t).length = 16 := by simp [foldL, h]
theorem foldL_at {t : List Int} (h : t.length = 31) (k : Nat) (hk : k < 16) : nth (foldL t) k = nth t k + 38 * nth t (k + 16) := by
  rw [foldL, nth_zip _ _ _ _ (by simp [h]; omega) (by simp [h]; omega)]
  have e1 : nth (t.take 16) k = nth t k := by rw [nth_get (by simp [h]; omega), nth_get (by omega), List.getElem_take]
  have e2 : nth (t.drop 16 ++ [0]) k = nth t (k + 16) := by
    by_cases h15 : k < 15
    · rw [nth_get (by simp [h]; omega), nth_get (by omega), List.getElem_append_left (by simp [h]; omega), List.getElem_drop]
      congr 1; omega
    · obtain rfl : k = 15 := by omega
      rw [nth_past t _ (by omega), nth_get (by simp [h]), List.getElem_append_right (by simp [h])]
      simp
  rw [e1, e2]
theorem foldL_num {t : List Int} (h : t.length = 31) : dnum (foldL t) % PI = dnum t % PI := by
  have e1 : dnum (foldL t) = dnum (t.take 16) + 38 * dnum (t.drop 16) := by
    rw [foldL, dnum_zip _ 38 (fun x y => rfl) _ _ (by simp [h]), dnum_append]; simp [dnum]
  have e2 : dnum t = dnum (t.take 16) + 65536 ^ 16 * dnum (t.drop 16) := by
    conv => lhs; rw [← List.take_append_drop 16 t, dnum_append]
    rw [show (t.take 16).length = 16 by simp [h]]
  rw [e1, e2, pow16]
  have e : dnum (t.take 16) + 38 * dnum (t.drop 16) = dnum (t.take 16) + 115792089237316195423570985008687907853269984665640564039457584007913129639936 * dnum (t.drop 16) + PI * (-2 * dnum (t.drop 16)) := by simp only [PI]; omega
  rw [e, Int.add_mul_emod_self_left]
theorem Cv.done {a b t : List Int} {n m : F} (h : Cv a b 16 0 t) (ha : Wide9 n a) (hb : Wide9 m b) : (∀ x ∈ foldL t, -36028797018963968 ≤ x ∧ x ≤ 36028797018963968) ∧ dnum (foldL t) % PI = ((n * m : F).val : Int) := by
  refine ⟨fun x hx => ?_, ?_⟩
  · obtain ⟨j, hj, rfl⟩ := mem_nth hx
    rw [foldL_len h.1] at hj
    rw [foldL_at h.1 j hj]
    have := h.2.1 j
    have := h.2.1 (j + 16)
    omega
  · rw [foldL_num h.1, h.2.2, List.take_of_length_le (by rw [ha.1]; omega)]
    simp only [List.take_zero, dnum, Int.mul_zero, Int.add_zero]
    exact fin_mul_emod ha.2.2 hb.2.2

/-- A value that is a tight list of the number n. -/
def IsN (n : F) (v : Value) : Prop := ∃ l, v = .agg (valsK .i64 l) ∧ Tg n l
/-- .. a wide one. -/
def IsW (n : F) (v : Value) : Prop := ∃ l, v = .agg (valsK .i64 l) ∧ Wide9 n l
theorem IsN.wide {n : F} {v : Value} (h : IsN n v) : IsW n v := by obtain ⟨l, h1, h2⟩ := h; exact ⟨l, h1, h2.wide⟩

set_option maxHeartbeats 2000000 in
set_option maxRecDepth 100000 in
theorem times9_list (a b : List Int) (n m : F) (w : World) (hwa : Wide9 n a) (hwb : Wide9 m b) : Calls Try.prog 95 #[.agg (valsK .i64 a), .agg (valsK .i64 b)] w (Gives (IsN (n * m)) w) := by
  have HA := Lib.hid hwa.1
  have HB := Lib.hid hwb.1
  have HWA := Lib.hid hwa
  have HWB := Lib.hid hwb
  clear hwa hwb
  go_enter Try.func95, Try.ntmps95
  go_wp2_with fail
  go_loopw [6] (fun i wr => ∃ (p : Nat) (t : List Int), p ≤ 16 ∧ i = .int .i64 p ∧ Cv a b p 0 t ∧ wr.heap[w.heap.size]? = some (.cells (valsK .i64 a) 131 (0, 0)) ∧ wr.heap[w.heap.size + 1]? = some (.cells (valsK .i64 b) 131 (0, 0)) ∧ wr.heap[w.heap.size + 2]? = some (.cells (valsK .i64 z16) 131 (0, 0)) ∧ wr.heap[w.heap.size + 3]? = some (.cells (valsK .i64 t) 153 (0, 0)) ∧ Below w.heap.size w wr) (fun i _ => 16 - (intOf i).toNat)
  case atStart => exact ⟨0, z31, by omega, rfl, Cv.start a b, new4_0 .., new4_1 .., new4_2 .., new4_3 .., by go_grown⟩
  case round =>
    obtain ⟨p, t, hp, rfl, hC, RX, RY, RZ, RT, Bk⟩ := hrel
    obtain ⟨wo, hwo⟩ : ∃ wo, wo = wr := ⟨_, rfl⟩
    subst hwo
    by_cases hlt : p < 16
    · go_wp2_with fail
      go_loopw [7] (fun i wr => ∃ (q : Nat) (t : List Int), q ≤ 16 ∧ i = .int .i64 q ∧ Cv a b p q t ∧ wr.heap[w.heap.size]? = some (.cells (valsK .i64 a) 131 (0, 0)) ∧ wr.heap[w.heap.size + 1]? = some (.cells (valsK .i64 b) 131 (0, 0)) ∧ wr.heap[w.heap.size + 2]? = some (.cells (valsK .i64 z16) 131 (0, 0)) ∧ wr.heap[w.heap.size + 3]? = some (.cells (valsK .i64 t) 153 (0, 0)) ∧ Below w.heap.size w wr) (fun i _ => 16 - (intOf i).toNat)
      case atStart => exact ⟨0, t, by omega, rfl, hC, RX, RY, RZ, RT, Bk⟩
      case round =>
        clear hC RX RY RZ RT Bk
        obtain ⟨q, t, hq, rfl, hC, RX, RY, RZ, RT, Bk⟩ := hrel
        have HCL := Lib.hid hC.1
        by_cases hql : q < 16
        · have cx := (row_cell RX p).trans (valsK_get (by rw [HA.out]; exact hlt))
          have cy := (row_cell RY q).trans (valsK_get (by rw [HB.out]; exact hql))
          have pp := prod_bound (HWA.out.2.1 p) (HWB.out.2.1 q)
          have ct := (row_cell RT (p + q)).trans (valsK_get (by rw [HCL.out]; omega))
          have ft := row_free RT (p + q)
          have hbt := hC.2.1 (p + q)
          have HS := Lib.hid (row_set (i := p + q) (v := .int .i64 (nth t (p + q) + nth a p * nth b q)) RT)
          have HC := Lib.hid (hC.step HB.out pp hlt hql)
          have H1 := Lib.hid RX
          have H2 := Lib.hid RY
          have H3 := Lib.hid RZ
          clear RX RY RZ RT hC
          go_wp2
          go_region
          go_wp2
          go_roundw
          case rel =>
            refine ⟨q + 1, _, by omega, by go_num, HC.out, row_set_other H1.out (by omega), row_set_other H2.out (by omega), row_set_other H3.out (by omega), ?_, by go_grown⟩
            refine HS.out.trans ?_
            rw [valsK_set]
          case measure => simp [intOf]; omega
        · obtain rfl : q = 16 := by omega
          have HC := Lib.hid (hC.next HA.out HB.out hlt)
          have H1 := Lib.hid RX
          have H2 := Lib.hid RY
          have H3 := Lib.hid RZ
          have H4 := Lib.hid RT
          clear RX RY RZ RT hC
          go_wp2
          go_roundw
          case rel => exact ⟨p + 1, t, by omega, by go_num, HC.out, H1.out, H2.out, H3.out, H4.out, Bk⟩
          case measure => simp [intOf]; omega
    · obtain rfl : p = 16 := by omega
      obtain ⟨hb2, hd⟩ := hC.done HWA.out HWB.out
      have hcl := hC.1
      have HCL := Lib.hid hcl
      have HFL := Lib.hid (foldL_len hcl)
      have HB2 := Lib.hid hb2
      have HD := Lib.hid hd
      have HFA := Lib.hid (foldL_at hcl)
      have hbt : ∀ j, -4403013968896 ≤ nth t j ∧ nth t j ≤ 4403013968896 := fun j => by have := hC.2.1 j; omega
      have HBT := Lib.hid hbt
      have LT := row_lt RT
      clear hC hb2 hd hcl hbt
      go_wp2_with fail
      have RZ2 := row_alloc (x := .cells (valsK .i64 z16) 131) RZ
      have RT2 := row_alloc (x := .cells (valsK .i64 z16) 131) RT
      have RN := row_new (w := wo) (x := .cells (valsK .i64 z16) 131)
      have B2 := Bk.alloc Bk.size (.cells (valsK .i64 z16) 131)
      clear RX RY RZ RT Bk
      change Code.wp _ _ _ _ (wo.alloc (.cells (valsK .i64 z16) 131))
      generalize wo.alloc (.cells (valsK .i64 z16) 131) = W at RZ2 RT2 RN B2 ⊢
      generalize wo.heap.size = gn at LT RN ⊢
      go_loopw [9] (fun i wr => ∃ k : Nat, k ≤ 16 ∧ i = .int .i64 k ∧ wr.heap[w.heap.size + 2]? = some (.cells (valsK .i64 z16) 131 (0, 0)) ∧ wr.heap[w.heap.size + 3]? = some (.cells (valsK .i64 t) 153 (0, 0)) ∧ wr.heap[gn]? = some (.cells (valsK .i64 ((foldL t).take k ++ z16.drop k)) 131 (0, 0)) ∧ Below w.heap.size w wr) (fun i _ => 16 - (intOf i).toNat)
      case atStart => exact ⟨0, by omega, rfl, RZ2, RT2, RN, B2⟩
      case round =>
        clear RZ2 RT2 RN B2
        obtain ⟨k, hk, rfl, RZ, RT, RN, Bk⟩ := hrel
        by_cases hkl : k < 16
        · have cn := (row_cell RN k).trans (valsK_get (by rw [fill_len _ _ _ (by rw [HFL.out]; rfl) (by rw [HFL.out]; omega)]; exact hkl))
          have fn := row_free RN k
          have ct := (row_cell RT k).trans (valsK_get (by rw [HCL.out]; omega))
          have bt := HBT.out k
          by_cases h15 : k < 15
          · have ct2 := (row_cell RT (k + 16)).trans (valsK_get (by rw [HCL.out]; omega))
            have bt2 := HBT.out (k + 16)
            have S2 := row_set (i := k) (v := .int .i64 (nth t k + 38 * nth t (k + 16))) (row_set (i := k) (v := .int .i64 (nth t k)) RN)
            have HFK := Lib.hid (HFA.out k hkl)
            have HS := Lib.hid S2
            have H1 := Lib.hid RZ
            have H2 := Lib.hid RT
            clear RZ RT RN S2
            generalize nth t k = x at *
            generalize nth t (k + 16) = y at *
            go_wp2
            go_region
            go_wp2
            go_roundw
            case rel =>
              refine ⟨k + 1, by omega, by go_num, row_set_other (row_set_other H1.out (by omega)) (by omega), row_set_other (row_set_other H2.out (by omega)) (by omega), ?_, by go_grown⟩
              refine HS.out.trans ?_
              rw [valsK_set, valsK_set, List.set_set, ← HFK.out, fill_step _ _ _ (by rw [HFL.out]; exact hkl) (by rw [HFL.out]; rfl)]
            case measure => simp [intOf]; omega
          · obtain rfl : k = 15 := by omega
            have S2 := row_set (i := 15) (v := .int .i64 (nth t 15)) RN
            have e31 : nth (foldL t) 15 = nth t 15 := by rw [HFA.out 15 hkl, nth_past t (15 + 16) (by rw [HCL.out]; omega)]; omega
            have HFK := Lib.hid e31
            have HS := Lib.hid S2
            have H1 := Lib.hid RZ
            have H2 := Lib.hid RT
            clear RZ RT RN S2 e31
            generalize nth t 15 = x at *
            go_wp2
            go_roundw
            case rel =>
              refine ⟨16, by omega, rfl, row_set_other H1.out (by omega), row_set_other H2.out (by omega), ?_, by go_grown⟩
              refine HS.out.trans ?_
              rw [valsK_set, ← HFK.out, fill_step _ _ _ (by rw [HFL.out]; exact hkl) (by rw [HFL.out]; rfl)]
            case measure => simp [intOf]
        · obtain rfl : k = 16 := by omega
          have e16 : (foldL t).take 16 ++ z16.drop 16 = foldL t := by rw [List.take_of_length_le (by rw [HFL.out]; omega)]; exact List.append_nil _
          rw [e16] at RN
          clear e16 HFA HBT HWA HWB HA HB
          generalize foldL t = N at *
          go_wp2_with (refine ld_row rfl 131 (.tmp 8) rfl _ (by rfl) _ _ RN 16 tNine (by rw [valsK_size, HFL.out]) ?_)
          refine (carry9_any N _ HFL.out HB2.out).mono ?_
          rintro e w1 ⟨L1, rfl, hL1, b1⟩
          have h1 := hL1.once HFL.out HB2.out
          have hn1 := hL1.num
          rw [HD.out] at hn1
          have Z1 := row_call b1 RZ
          have B1 := below_call b1 Bk
          have HL1 := Lib.hid hL1
          have H1 := Lib.hid h1
          have HN1 := Lib.hid hn1
          clear b1 RZ RN RT Bk hL1 h1 hn1
          go_wp2_with fail
          refine (carry9_any L1 _ HL1.out.len H1.out.2.2.1).mono ?_
          rintro e w2 ⟨L2, rfl, hL2, b2⟩
          have hT := hL2.tight H1.out.2.2.2 HN1.out
          have Z2 := row_call b2 Z1
          have B2 := below_call b2 B1
          have HT := Lib.hid hT
          clear b2 Z1 B1 hL2 hT H1 HL1 HN1
          go_wp2_with (refine st_row rfl 131 (.tmp 4) _ rfl _ _ (by rfl) (by rfl) _ _ Z2 16 tNine (by rw [valsK_size, HT.out.1]) (by rfl) (valsK_one _ _) ?_)
          refine ret_row rfl _ _ _ rfl (row_put Z2) 16 tNine (by rw [valsK_size, HT.out.1]) rfl ?_
          exact ⟨_, rfl, ⟨L2, rfl, HT.out⟩, below_setRow B2 (by omega) _⟩
end Go.Proofs.Ytciakfhjjnmeeaa

namespace Go.Proofs.Ytciakfhjjnmeeaa
open Go.RowKit Nt

theorem primeL_norm : Norm primeL := ⟨rfl, by decide⟩

set_option maxHeartbeats 1000000 in
set_option maxRecDepth 100000 in
theorem below9_any (a : List Int) (w : World) (ha : Norm a) :
    Calls Try.prog 120 #[.agg (valsK .i64 a)] w fun e w' => e = .returned (.bool (decide (dnum a < dnum primeL))) ∧ Below w.heap.size w w' := by
  have HA := Lib.hid ha.1
  have hb := primeL_norm
  have HB := Lib.hid hb.1
  have hbo := valsK_one .i64 primeL
  go_enter Try.func120, Try.ntmps120
  go_wp2_with fail
  refine (prime9_any _).mono ?_
  rintro e w1 ⟨r, rfl, rfl, b1⟩
  have R0 := row_call b1 (row_new (w := w) (x := .cells (valsK .i64 a) 131))
  have B1 := below_call b1 ((Below.refl w.heap.size w).alloc (Nat.le_refl _) (.cells (valsK .i64 a) 131))
  have HL := row_lt R0
  have R1 := row_alloc (x := .cells (valsK .i64 primeL) 131) R0
  have R2 := row_new (w := w1) (x := .cells (valsK .i64 primeL) 131)
  have B2 := B1.alloc B1.size (.cells (valsK .i64 primeL) 131)
  clear b1 R0 B1
  generalize hbp : primeL = b at *
  have HBP := Lib.hid hbp
  clear hbp
  go_wp2_with (refine st_new rfl 131 (.tmp 3) _ rfl _ _ _ (by rfl) (by rfl) 16 tNine (by rw [valsK_size, HB.out]) (by rfl) hbo ?_)
  generalize w1.alloc (.cells (valsK .i64 b) 131) = W at R1 R2 B2 ⊢
  generalize w1.heap.size = gp at R2 HL ⊢
  go_loopw [4] (fun i wr => ∃ k : Nat, k ≤ 16 ∧ i = .int .i64 ((k : Int) - 1) ∧ a.drop k = b.drop k ∧ wr.heap[w.heap.size]? = some (.cells (valsK .i64 a) 131 (0, 0)) ∧ wr.heap[gp]? = some (.cells (valsK .i64 b) 131 (0, 0)) ∧ Below w.heap.size w wr) (fun i _ => (intOf i + 1).toNat)
  case atStart => exact ⟨16, by omega, rfl, by rw [List.drop_of_length_le (by rw [HA.out]; omega), List.drop_of_length_le (by rw [HB.out]; omega)], R1, R2, B2⟩
  case round =>
    clear R1 R2 B2
    obtain ⟨k, hk, rfl, hd, Ra, Rb, Bk⟩ := hrel
    by_cases h0 : k = 0
    · subst h0
      have hab : a = b := hd
      have hf : decide (dnum a < dnum b) = false := by rw [hab]; simp
      have HF := Lib.hid hf
      clear hf hab hd
      go_wp2
      go_returns
      exact ⟨by rw [HBP.out, HF.out]; rfl, Bk⟩
    · obtain ⟨m, rfl⟩ : ∃ m, k = m + 1 := ⟨k - 1, by omega⟩
      have ca := (row_cell Ra m).trans (valsK_get (by rw [HA.out]; omega))
      have cb := (row_cell Rb m).trans (valsK_get (by rw [HB.out]; omega))
      have HRa := Lib.hid Ra
      have HRb := Lib.hid Rb
      have HDr := Lib.hid hd
      clear Ra Rb hd
      by_cases he : nth a m = nth b m
      · have hbe : (nth a m != nth b m) = false := by simp [he]
        have he2 := he
        have HE := Lib.hid he
        clear he he2
        go_wp2
        go_quiet (fail)
        go_wp2
        go_roundw
        case rel =>
          refine ⟨m, by omega, by go_num, ?_, ?_, ?_, ?_⟩
          · rw [drop_nth a m (by rw [HA.out]; omega), drop_nth b m (by rw [HB.out]; omega), HE.out, HDr.out]
          · exact HRa.out
          · exact HRb.out
          · exact below_drewN Bk _
        case measure => simp [intOf]
      · have hbe : (nth a m != nth b m) = true := by simp [he]
        have HX := Lib.hid (ahead_at ha hb (by omega) HDr.out he)
        clear he
        go_wp2
        go_quiet (fail)
        go_wp2
        go_quiet (fail)
        go_wp2
        go_returns
        exact ⟨by rw [HBP.out, ← HX.out]; rfl, below_drewN (below_drewN Bk _) _⟩

/-- The digits while they are brought to normal ones, the last one not. -/
def mid15 (l A : List Int) (c : Int) (k : Nat) : List Int := A ++ (nth l k + c) :: l.drop (k + 1)
theorem mid15_step {l A : List Int} {c d : Int} {k : Nat} (hl : l.length = 16) (hA : A.length = k) (hk : k < 15) (v v2 : Int) (hv2 : v2 = nth l (k + 1) + d) :
    ((mid15 l A c k).set k v).set (k + 1) v2 = mid15 l (A ++ [v]) d (k + 1) := by
  rw [mid15, mid15, pre_set _ _ _ _ _ hA, drop_nth l (k + 1) (by omega), pre_set _ _ _ _ _ (by simp [hA]), hv2, List.append_assoc]
  rfl
theorem mid15_last {l A : List Int} {c : Int} (hl : l.length = 16) (hA : A.length = 15) (hN : ∀ x ∈ A, 0 ≤ x ∧ x < 65536) (hd : dnum A + 65536 ^ 15 * c = dnum (l.take 15)) (hb : 0 ≤ dnum l ∧ dnum l < 115792089237316195423570985008687907853269984665640564039457584007913129639936) :
    Norm (mid15 l A c 15) ∧ dnum (mid15 l A c 15) = dnum l := by
  have e1 : mid15 l A c 15 = A ++ [nth l 15 + c] := by rw [mid15, List.drop_of_length_le (by omega)]
  have e2 : dnum l = dnum (l.take 15) + 65536 ^ 15 * nth l 15 := by
    have := dnum_take l 15 (by omega)
    rw [List.take_of_length_le (by omega)] at this
    exact this
  have hAb := dnum_bound A hN
  have p15 : (65536 : Int) ^ 15 = 1766847064778384329583297500742918515827483896875618958121606201292619776 := by decide
  rw [hA, p15] at hAb
  rw [p15] at hd e2
  have e3 : dnum (A ++ [nth l 15 + c]) = dnum l := by
    rw [dnum_append, hA, p15]; simp only [dnum]; omega
  rw [e1]
  refine ⟨⟨by simp [hA], fun x hx => ?_⟩, e3⟩
  rw [dnum_append, hA, p15] at e3
  simp only [dnum] at e3
  rcases List.mem_append.1 hx with h | h
  · exact hN x h
  · rw [List.mem_singleton] at h; subst h; omega

/-- What is left to be taken off. -/
theorem less_prime {l : List Int} {n : F} (h : Norm l) (hn : dnum l % PI = (n.val : Int)) (hlt : dnum l < dnum primeL) : dnum l = (n.val : Int) := by
  have := norm_bound h
  rw [primeL_num] at hlt
  rw [← hn]
  exact (Int.emod_eq_of_lt this.1 (by simp only [PI]; omega)).symm
theorem sub_prime {l : List Int} {n : F} (h : Norm l) (hn : dnum l % PI = (n.val : Int)) : dnum (subL l primeL) = dnum l - PI ∧ dnum (subL l primeL) % PI = (n.val : Int) ∧ (∀ j, -65535 ≤ nth (subL l primeL) j ∧ nth (subL l primeL) j ≤ 65535) ∧ (subL l primeL).length = 16 := by
  have e : dnum (subL l primeL) = dnum l - PI := by rw [subL_num (h.1.trans rfl), primeL_num]
  refine ⟨e, ?_, fun j => ?_, by simp [subL, h.1]; rfl⟩
  · rw [e, ← hn, show dnum l - PI = dnum l + PI * (-1) by omega, Int.add_mul_emod_self_left]
  · by_cases hj : j < 16
    · rw [subL, nth_zip _ _ _ _ (by rw [h.1]; exact hj) hj]
      have h1 := h.nth j
      have h2 := primeL_norm.nth j
      omega
    · rw [nth_past _ _ (by simp [subL, h.1]; omega)]; omega
theorem Norm.tame {l : List Int} (h : Norm l) : ∀ x ∈ l, -1099511627776 ≤ x ∧ x ≤ 1099511627776 := fun x hx => by have := h.2 x hx; omega

theorem Own.rowK {b w : World} {L : List (Nat × Nat × (Value → Prop))} (h : Own b L w) {i g n : Nat} {l : List Int} (hi : L[i]? = some (g, n, (· = .agg (valsK .i64 l)))) : ∃ t, w.heap[g]? = some (.cells (valsK .i64 l) t (0, 0)) := by
  obtain ⟨cs, t, h1, _, h3⟩ := h.get hi
  injection h3 with h3
  subst h3
  exact ⟨t, h1⟩
theorem Own.word {b w : World} {L : List (Nat × Nat × (Value → Prop))} (h : Own b L w) {i g n : Nat} {l : List Int} (hi : L[i]? = some (g, n, (· = .agg (valsK .i64 l)))) (k : Nat) (x : Int) : Own b (L.set i (g, n, (· = .agg (valsK .i64 (l.set k x))))) (w.setCell ⟨g, k, none⟩ (.int .i64 x)) :=
  h.cell hi k _ fun cs _ hcs => by
    injection hcs with hcs
    subst hcs
    exact congrArg Value.agg (valsK_set ..)
theorem own2 {w W : World} {L : List Int} {tA tB : TypeId} (h0 : W.heap[w.heap.size]? = some (.cells (valsK .i64 L) tA (0, 0))) (hl : L.length = 16) (h1 : W.heap[w.heap.size + 1]? = some (.cells (vals z32) tB (0, 0))) (B : Below w.heap.size w W) :
    Own w [(w.heap.size, 16, (· = .agg (valsK .i64 L))), (w.heap.size + 1, 32, (· = .agg (vals z32)))] W :=
  ((Own.of_below B).add (g := w.heap.size) (n := 16) (V := (· = .agg (valsK .i64 L))) (Nat.le_refl _) (fun r hr => by cases hr) ⟨_, _, h0, by rw [valsK_size, hl], rfl⟩).add (g := w.heap.size + 1) (n := 32) (V := (· = .agg (vals z32))) (by omega) (by simp) ⟨_, _, h1, rfl, rfl⟩
theorem by_rowK {l : List Int} (h : l.length = 16) : ∀ x : Value, x = .agg (valsK .i64 l) → ∃ cs, x = .agg cs ∧ cs.size = 16 ∧ cs.all (·.oneCell') = true :=
  fun x hx => ⟨valsK .i64 l, hx, by rw [valsK_size, h], valsK_one _ _⟩
set_option maxHeartbeats 4000000 in
set_option maxRecDepth 100000 in
theorem bytes9_list (l : List Int) (n : F) (w : World) (hl : Tg n l) : Calls Try.prog 94 #[.agg (valsK .i64 l)] w (Gives (· = .agg (vals (bytesN n.val))) w) := by
  have HL := Lib.hid hl
  have R0 := new2_0 w (.cells (valsK .i64 l) 131) (.cells (vals z32) 22)
  have R1 := new2_1 w (.cells (valsK .i64 l) 131) (.cells (vals z32) 22)
  have B0 : Below w.heap.size w ((w.alloc (.cells (valsK .i64 l) 131)).alloc (.cells (vals z32) 22)) := by go_grown
  clear hl
  go_enter Try.func94, Try.ntmps94
  go_wp2_with (refine ld_row rfl 131 (.tmp 1) rfl _ (by rfl) _ _ R0 16 tNine (by rw [valsK_size, HL.out.1]) ?_)
  change Calls _ _ _ ((w.alloc (.cells (valsK .i64 l) 131)).alloc (.cells (vals z32) 22)) _
  generalize (w.alloc (.cells (valsK .i64 l) 131)).alloc (.cells (vals z32) 22) = W at *
  refine (carry9_any l _ HL.out.1 HL.out.tame).mono ?_
  rintro e w1 ⟨L1, rfl, hL1, b1⟩
  have h1 := hL1.once HL.out.1 HL.out.tame
  have hn1 := hL1.num
  replace R0 := row_call b1 R0
  replace R1 := row_call b1 R1
  have B1 := below_call b1 B0
  have HL1 := Lib.hid hL1
  have H1 := Lib.hid h1
  have HN1 := Lib.hid hn1
  clear b1 B0 hL1 h1 hn1 W
  go_wp2_with fail
  refine (carry9_any L1 _ HL1.out.len H1.out.2.2.1).mono ?_
  rintro e w2 ⟨L2, rfl, hL2, b2⟩
  have hn2 := hL2.num
  have hN2 := Car9.twice HL.out HL1.out hL2
  replace R0 := row_call b2 R0
  replace R1 := row_call b2 R1
  have B2 := below_call b2 B1
  rw [HN1.out, HL.out.2.2.2] at hn2
  have HN2 := Lib.hid hN2
  have HD2 := Lib.hid hn2
  clear b2 B1 hL2 hN2 hn2 HL1 H1 HN1 w1
  go_wp2_with fail
  refine (carry9_any L2 _ HN2.out.1 (fun x hx => by have := HN2.out.2 x hx; omega)).mono ?_
  rintro e w3 ⟨L3, rfl, hL3, b3⟩
  have hn3 := hL3.num
  have hN3 := hL3.norm (norm_bound HN2.out)
  replace R0 := row_call b3 R0
  replace R1 := row_call b3 R1
  have B3 := below_call b3 B2
  rw [HD2.out] at hn3
  have HN3 := Lib.hid hN3
  have HD3 := Lib.hid hn3
  have R0' := row_put (cs' := valsK .i64 L3) R0
  have R1' := row_put_other (cs := valsK .i64 L3) R1 (by omega : w.heap.size + 1 ≠ w.heap.size)
  have B3' := below_setRow B3 (Nat.le_refl _) (valsK .i64 L3)
  have HR0 := Lib.hid R0
  have HRB := Lib.hid (⟨R0', R1', B3'⟩ : _ ∧ _ ∧ _)
  clear b3 B2 B3 hL3 hN3 hn3 HN2 HD2 R0 R1 R0' R1' B3' w2
  go_wp2_with (refine st_row rfl 131 (.tmp 1) _ rfl _ _ (by rfl) (by rfl) _ _ HR0.out 16 tNine (by rw [valsK_size, HN3.out.1]) (by rw [valsK_size, HL.out.1]) (valsK_one _ _) ?_)
  go_frame
  go_loopg [3] 2 (fun g i wr => ∃ L, Norm L ∧ dnum L % PI = (n.val : Int) ∧ dnum L < PI * (g + 1 : Nat) ∧ Own w [(w.heap.size, 16, (· = .agg (valsK .i64 L))), (w.heap.size + 1, 32, (· = .agg (vals z32)))] wr)
  case atStart => exact ⟨L3, HN3.out, HD3.out, by have := norm_bound HN3.out; simp only [PI]; omega, own2 HRB.out.1 HN3.out.1 HRB.out.2.1 HRB.out.2.2⟩
  case round =>
    obtain ⟨L, hN, hD, hG, hO⟩ := hrel
    obtain ⟨tA, Ra⟩ := hO.rowK (i := 0) rfl
    obtain ⟨tB, Rb⟩ := hO.bytes (i := 1) rfl
    have Bk := hO.1
    clear hO
    clear HRB HN3 HD3 HL HR0
    obtain ⟨wo, hwo⟩ : ∃ wo, wo = wr := ⟨_, rfl⟩
    subst hwo
    have HN := Lib.hid hN
    have HD := Lib.hid hD
    have HG := Lib.hid hG
    clear hN hD hG
    go_wp2_with (refine ld_row rfl 131 (.tmp 1) rfl _ (by rfl) _ _ Ra 16 tNine (by rw [valsK_size, HN.out.1]) ?_)
    refine (below9_any L _ HN.out).mono ?_
    rintro e w4 ⟨rfl, b4⟩
    replace Ra := row_call b4 Ra
    replace Rb := row_call b4 Rb
    replace Bk := below_call b4 Bk
    clear b4
    by_cases hlt : dnum L < dnum primeL
    · have hfin := less_prime HN.out HD.out hlt
      have hU := lastly HN.out hfin
      rw [decide_eq_true hlt]
      have HU := Lib.hid hU
      have HUL := Lib.hid (show (undg L).length = 32 by rw [undg_len, HN.out.1])
      clear hlt hfin hU HG HD
      go_wp2_with fail
      have Ra2 := row_alloc (x := .cells (vals z32) 22) Ra
      have Rb2 := row_alloc (x := .cells (vals z32) 22) Rb
      have Rc := row_new (w := w4) (x := .cells (vals z32) 22)
      have B5 := Bk.alloc Bk.size (.cells (vals z32) 22)
      have HLT := row_lt Rb
      clear Ra Rb Bk
      change Code.wp _ _ _ _ (w4.alloc (.cells (vals z32) 22))
      generalize w4.alloc (.cells (vals z32) 22) = W5 at Ra2 Rb2 Rc B5 ⊢
      generalize w4.heap.size = go at Rc HLT ⊢
      go_loopw [6] (fun i wr => ∃ k : Nat, k ≤ 16 ∧ i = .int .i64 k ∧ wr.heap[w.heap.size]? = some (.cells (valsK .i64 L) tA (0, 0)) ∧ wr.heap[w.heap.size + 1]? = some (.cells (vals z32) tB (0, 0)) ∧ wr.heap[go]? = some (.cells (vals ((undg L).take (2 * k) ++ z32.drop (2 * k))) 22 (0, 0)) ∧ Below w.heap.size w wr) (fun i _ => 16 - (intOf i).toNat)
      case atStart => exact ⟨0, by omega, rfl, Ra2, Rb2, Rc, B5⟩
      case round =>
        clear Ra2 Rb2 Rc B5
        obtain ⟨k, hk, rfl, Ra, Rb, Rc, Bk⟩ := hrel
        by_cases hkl : k < 16
        · have ca := (row_cell Ra k).trans (valsK_get (by rw [HN.out.1]; exact hkl))
          have hx := HN.out.nth k
          have c0 := (row_cell Rc (2 * k)).trans (vals_get (by rw [fill_len _ _ _ (by rw [HUL.out]; rfl) (by rw [HUL.out]; omega)]; show 2 * k < 32; omega))
          have c1 := (row_cell Rc (2 * k + 1)).trans (vals_get (by rw [fill_len _ _ _ (by rw [HUL.out]; rfl) (by rw [HUL.out]; omega)]; show 2 * k + 1 < 32; omega))
          have fc := row_free Rc
          have u0 := undg_even k L (by rw [HN.out.1]; exact hkl)
          have u1 := undg_odd k L (by rw [HN.out.1]; exact hkl)
          have S2 := row_set (i := 2 * k + 1) (v := .int .u8 (nth L k / 256)) (row_set (i := 2 * k) (v := .int .u8 (nth L k % 256)) Rc)
          rw [vals_set, vals_set, ← u0, ← u1, fill_step _ _ _ (by rw [HUL.out]; omega) (by rw [HUL.out]; rfl), fill_step _ _ _ (by rw [HUL.out]; omega) (by rw [HUL.out]; rfl), u0, u1] at S2
          have HS := Lib.hid S2
          have H1 := Lib.hid Ra
          have H2 := Lib.hid Rb
          have w1 : IntKind.u8.wrap (nth L k) = nth L k % 256 := IntKind.wrap_u8 _
          have w2 : IntKind.u8.wrap (nth L k / 256) = nth L k / 256 := by rw [IntKind.wrap_u8]; omega
          clear Ra Rb Rc S2 u0 u1
          generalize nth L k = x at *
          go_wp2
          go_roundw
          case rel => exact ⟨k + 1, by omega, by go_num, row_set_other (row_set_other H1.out (by omega)) (by omega), row_set_other (row_set_other H2.out (by omega)) (by omega), HS.out, by go_grown⟩
          case measure => simp [intOf]; omega
        · obtain rfl : k = 16 := by omega
          have e16 : (undg L).take (2 * 16) ++ z32.drop (2 * 16) = bytesN n.val := by rw [List.take_of_length_le (by rw [HUL.out]; omega), HU.out]; exact List.append_nil _
          rw [e16] at Rc
          clear e16
          go_wp2_with (first | (refine ld_row rfl 22 (.tmp 5) rfl _ (by rfl) _ _ Rc 32 tBytes (by rw [vals_size, bytesN_len]) ?_) | (refine st_row rfl 22 (.tmp 2) _ rfl _ _ (by rfl) (by rfl) _ _ Rb 32 tBytes (by rw [vals_size, bytesN_len]) (by rfl) (vals_one _) ?_))
          refine ret_row rfl _ _ _ rfl (row_put Rb) 32 tBytes (by rw [vals_size, bytesN_len]) rfl ?_
          exact ⟨_, rfl, rfl, below_setRow Bk (by omega) _⟩
    · rw [decide_eq_false hlt]
      have HLT := Lib.hid hlt
      have hS := own2 Ra HN.out.1 Rb Bk
      have HSL := Lib.hid (show (subL L primeL).length = 16 by simp [subL, HN.out.1]; rfl)
      clear hlt Ra Rb Bk
      go_wp2_with fail
      obtain ⟨M, hM⟩ : ∃ M, M = w4.heap.size := ⟨_, rfl⟩
      refine hide_frame fun t0 HT => ?_
      have HS : t0.size = 63 := by rw [HT]; rfl
      have h1 : t0[1]? = some (.pointer (some ⟨w.heap.size, 0, none⟩)) := by rw [HT]; rfl
      have h2 : t0[2]? = some (.pointer (some ⟨(w.heap.size + 1), 0, none⟩)) := by rw [HT]; rfl
      refine wp_region_most 3 (fun i => [14, 15, 16].getD i 0) (fun _ => none) (fun i => [(· = .agg (valsK .i64 L)), (· = .agg (valsK .i64 primeL)), (· = .agg (valsK .i64 (subL L primeL)))].getD i (fun _ => True)) (fun w' => Own w [(w.heap.size, 16, (· = .agg (valsK .i64 L))), ((w.heap.size + 1), 32, (· = .agg (vals z32)))] w' ∧ M ≤ w'.heap.size) M
        (by kernel_rfl) (by kernel_rfl) (slots_apart (by kernel_rfl)) (slots_lie (by rw [HS]; kernel_rfl)) ⟨hS.drew, Nat.le_of_eq hM⟩ (fun w' h => h.2) (fun w1 w2 h b => ⟨h.1.keep b, Nat.le_trans h.2 b.size⟩) ?_ ?_ ?_
      · clear hS
        intro i o hi ho hA
        have hc : i = 0 ∨ i = 1 ∨ i = 2 := by omega
        rcases hc with rfl | rfl | rfl
        · obtain rfl := Option.some.inj ho
          refine ⟨rfl, fun a w' hS hold hin K hK => ?_⟩
          refine if_always rfl ?_
          exact op_ld_own 16 tNine (.tmp 1) rfl rfl _ (eval_tmp ((hold 1 (slots_not (by kernel_rfl))).trans h1)) hS.1 0 rfl hK
        · obtain rfl := Option.some.inj ho
          refine ⟨rfl, fun a w' hS hold hin K hK => ?_⟩
          refine if_always rfl ?_
          exact op_fn0 _  _  rfl rfl  (by intro args w; kernel_rfl) (prime9_any _) hK
        · obtain rfl := Option.some.inj ho
          refine ⟨rfl, fun a w' hS hold hin K hK => ?_⟩
          obtain ⟨y0, x0, rfl⟩ := hin 0 rfl (by omega) rfl
          obtain ⟨y1, x1, rfl⟩ := hin 1 rfl (by omega) rfl
          refine if_always rfl ?_
          exact op_fn2 _ _ _ _ _ _ rfl rfl (eval_tmp x0) (eval_tmp x1) (by intro args w; kernel_rfl) (minus9_any L primeL _ HN.out.1 rfl HN.out.tame primeL_norm.tame) hK
      · intro i o sz hi ho hA; cases hA
      clear hS
      intro t1 V1 hs hold hout hall hne hS
      have ef := frame_fill 3 (fun i => [14, 15, 16].getD i 0) hs hold (slots_apart (by kernel_rfl)) (slots_lie (by rw [HS]; kernel_rfl))
      replace HS := hs.trans HS
      replace hS := hS.1
      obtain ⟨x16, q16, v16⟩ : ∃ x, t1[16]? = some x ∧ ((· = .agg (valsK .i64 (subL L primeL)))) x := hout 2 (by omega) rfl
      replace h1 := (hold 1 (slots_not (by kernel_rfl))).trans h1
      replace h2 := (hold 2 (slots_not (by kernel_rfl))).trans h2
      clear hold hout hs hall hne
      simp only [List.drop_succ_cons, List.drop_zero]
      refine st_own 16 tNine rfl (.tmp 1) (.tmp 16) rfl rfl _ _ (eval_tmp h1) (eval_tmp q16) (V' := (· = .agg (valsK .i64 (subL L primeL)))) v16 (by_rowK HSL.out) hS 0 rfl fun V1' hS' _ => ?_
      replace hS : Own w [(w.heap.size, 16, (· = .agg (valsK .i64 (subL L primeL)))), ((w.heap.size + 1), 32, (· = .agg (vals z32)))] V1' := hS'
      clear hS'
      refine wpList_nil ?_
      rw [ef, HT]
      clear ef
      simp only [fillA, if_true, List.getD_cons_zero, List.getD_cons_succ, List.setIfInBounds_toArray, List.set_cons_zero, List.set_cons_succ]
      generalize t1.getD 14 undef = z14
      generalize t1.getD 15 undef = z15
      generalize t1.getD 16 undef = z16
      clear HT
      clear h1 h2 q16 v16 hM HS t1 t0 M
      obtain ⟨sp1, sp2, sp3, sp4⟩ := sub_prime HN.out HD.out
      have hSb : 0 ≤ dnum (subL L primeL) ∧ dnum (subL L primeL) < 115792089237316195423570985008687907853269984665640564039457584007913129639936 := by
        have := norm_bound HN.out
        have hge := HLT.out
        rw [primeL_num] at hge
        rw [sp1]; simp only [PI]; omega
      have hG2 : dnum (subL L primeL) < PI * (gk : Nat) := by rw [sp1]; have := HG.out; simp only [PI] at this ⊢; omega
      have hgk : 1 ≤ gk := by
        have := hSb.1
        refine Classical.byContradiction fun hn => ?_
        have : gk = 0 := by omega
        subst this
        simp only [PI] at hG2
        omega
      clear HG HLT HN HD
      generalize subL L primeL = S at *
      have HSB := Lib.hid hSb
      have HG2 := Lib.hid hG2
      have HS2 := Lib.hid sp2
      have HS3 := Lib.hid sp3
      have hS0 : Own w [(w.heap.size, 16, (· = .agg (valsK .i64 (mid15 S [] 0 0)))), (w.heap.size + 1, 32, (· = .agg (vals z32)))] V1' := by
        rw [show mid15 S [] 0 0 = S from by rw [mid15]; show (nth S 0 + 0) :: S.drop 1 = S; rw [Int.add_zero, ← drop_nth S 0 (by rw [HSL.out]; omega)]; rfl]
        exact hS
      clear hSb hG2 sp1 sp2 sp3 sp4 hS
      go_wp2_with fail
      go_loopw [3] (fun i wr => ∃ (k : Nat) (c : Int) (A : List Int), k ≤ 15 ∧ i = .int .i64 k ∧ A.length = k ∧ (∀ x ∈ A, 0 ≤ x ∧ x < 65536) ∧ (-2 ≤ c ∧ c ≤ 2) ∧ dnum A + 65536 ^ k * c = dnum (S.take k) ∧ Own w [(w.heap.size, 16, (· = .agg (valsK .i64 (mid15 S A c k)))), (w.heap.size + 1, 32, (· = .agg (vals z32)))] wr) (fun i _ => 15 - (intOf i).toNat)
      case atStart => exact ⟨0, 0, [], by omega, rfl, rfl, (fun x hx => by cases hx), by omega, by simp [dnum], hS0⟩
      case round =>
        clear hS0
        obtain ⟨k, c, A, hk, rfl, hA, hNA, hc, hd, hO⟩ := hrel
        by_cases hkl : k < 15
        · obtain ⟨tR, Ra⟩ := hO.rowK (i := 0) rfl
          have hml : (mid15 S A c k).length = 16 := by simp [mid15, hA, HSL.out]; omega
          have ca := (row_cell Ra k).trans (valsK_get (by rw [hml]; omega))
          rw [show nth (mid15 S A c k) k = nth S k + c from by rw [mid15, pre_nth _ _ _ _ hA]] at ca
          have cb := (row_cell Ra (k + 1)).trans (valsK_get (by rw [hml]; omega))
          rw [show nth (mid15 S A c k) (k + 1) = nth S (k + 1) from by rw [mid15, drop_nth S (k + 1) (by rw [HSL.out]; omega), show A ++ (nth S k + c) :: nth S (k + 1) :: S.drop (k + 1 + 1) = (A ++ [nth S k + c]) ++ nth S (k + 1) :: S.drop (k + 1 + 1) by simp, pre_nth _ _ _ _ (by simp [hA])]] at cb
          have fa := row_free Ra
          have hx := HS3.out k
          have hy := HS3.out (k + 1)
          have HD := Lib.hid (car_step (by rw [HSL.out]; omega) hA hd)
          have e1 : nth S k + c - (nth S k + c) / 65536 * 65536 = (nth S k + c) % 65536 := by have := Int.mul_ediv_add_emod (nth S k + c) 65536; omega
          have HN2 := Lib.hid (show ∀ x ∈ A ++ [nth S k + c - (nth S k + c) / 65536 * 65536], 0 ≤ x ∧ x < 65536 from fun x hx' => by
            rw [List.mem_append] at hx'
            rcases hx' with h | h
            · exact hNA x h
            · rw [List.mem_singleton] at h; rw [h, e1]; omega)
          have HA := Lib.hid hA
          rw [← e1] at HD
          have HCD := Lib.hid (show -2 ≤ (nth S k + c) / 65536 ∧ (nth S k + c) / 65536 ≤ 2 by omega)
          have hq : -65537 ≤ nth S k + c ∧ nth S k + c ≤ 65537 := by omega
          have hO2 := (hO.word (i := 0) rfl k (nth S k + c - (nth S k + c) / 65536 * 65536)).word (i := 0) rfl (k + 1) (nth S (k + 1) + (nth S k + c) / 65536)
          rw [mid15_step HSL.out hA hkl _ _ rfl] at hO2
          simp only [List.set_cons_zero] at hO2
          have HO2 := Lib.hid hO2
          clear hO hO2 Ra hd hNA e1 hml hA
          generalize nth S k + c = q at *
          go_wp2_with fail
          go_roundw
          case rel => exact ⟨k + 1, q / 65536, A ++ [q - q / 65536 * 65536], by omega, by go_num, by simp [HA.out], HN2.out, HCD.out, HD.out, HO2.out⟩
          case measure => simp [intOf]; omega
        · obtain rfl : k = 15 := by omega
          obtain ⟨m1, m2⟩ := mid15_last HSL.out hA hNA hd HSB.out
          have HM1 := Lib.hid m1
          have HM2 := Lib.hid m2
          have HO := Lib.hid hO
          clear m1 m2 hO hd hNA
          go_wp2_with fail
          go_roundg (gk - 1)
          case measure => omega
          case rel => exact ⟨_, HM1.out, by rw [HM2.out]; exact HS2.out, by rw [HM2.out, show gk - 1 + 1 = gk by omega]; exact HG2.out, HO.out⟩
end Go.Proofs.Ytciakfhjjnmeeaa

namespace Go.Proofs.Ytciakfhjjnmeeaa
open Go.RowKit Nt

theorem by_num {l : List Int} (h : l.length = 32) : ∀ x : Value, x = .agg (vals l) → ∃ cs, x = .agg cs ∧ cs.size = 32 ∧ cs.all (·.oneCell') = true := by_row h
theorem digits_ev (l : List Int) (hl : l.length = 32) (hb : Byt l) {D : List Int} (hD : dgs l = D) (w : World) : Calls Try.prog 69 #[.agg (vals l)] w (Gives (· = .agg (valsK .i64 D)) w) := by
  subst hD
  exact (digits_any l w hl hb).mono fun _ _ ⟨e1, e2⟩ => ⟨_, e1, rfl, e2⟩
theorem least_ev (l : List Int) (n : F) (w : World) (hl : l.length = 16) (hb : ∀ x ∈ l, 0 ≤ x ∧ x < 1125899906842624) (hn : dnum l % PI = (n.val : Int)) : Calls Try.prog 68 #[.agg (valsK .i64 l)] w (Gives (· = .agg (vals (bytesN n.val))) w) :=
  (least08_any l n w hl hb hn).mono fun _ _ ⟨e1, e2⟩ => ⟨_, e1, rfl, e2⟩

set_option maxHeartbeats 2000000 in
set_option maxRecDepth 100000 in
theorem add08_any (n m : F) (w : World) : Calls Try.prog 79 #[.agg (vals (bytesN n.val)), .agg (vals (bytesN m.val))] w (Gives (· = .agg (vals (bytesN (n + m : F).val))) w) := by
  obtain ⟨hX, dX⟩ := digits_num n
  obtain ⟨hY, dY⟩ := digits_num m
  have hs : (∀ x ∈ addL (dgs (bytesN n.val)) (dgs (bytesN m.val)), 0 ≤ x ∧ x < 1125899906842624) ∧ dnum (addL (dgs (bytesN n.val)) (dgs (bytesN m.val))) % PI = ((n + m : F).val : Int) := by
    refine ⟨fun x hx => ?_, ?_⟩
    · obtain ⟨j, hj, rfl⟩ := mem_nth hx
      have hj2 : j < 16 := by simpa [addL, hX.1, hY.1] using hj
      rw [addL, nth_zip _ _ _ _ (by rw [hX.1]; exact hj2) (by rw [hY.1]; exact hj2)]
      have := hX.nth j
      have := hY.nth j
      omega
    · rw [addL_num (hX.1.trans hY.1.symm), dX, dY]
      exact fin_add_emod (Int.emod_eq_of_lt (by omega) (by have := n.isLt; rw [← PI_eq]; omega)) (Int.emod_eq_of_lt (by omega) (by have := m.isLt; rw [← PI_eq]; omega))
  have HSum := Lib.hid hs
  have HX := Lib.hid hX
  have HY := Lib.hid hY
  have HN := Lib.hid (bytesN_len n.val)
  have HM := Lib.hid (bytesN_len m.val)
  have hO : Own w [(w.heap.size, 32, (· = .agg (vals (bytesN n.val)))), (w.heap.size + 1, 32, (· = .agg (vals (bytesN m.val)))), (w.heap.size + 2, 32, (fun _ => True))] (((w.alloc (.cells (vals (bytesN n.val)) 29)).alloc (.cells (vals (bytesN m.val)) 29)).alloc (.cells (vals z32) 29)) := by
    have a0 : Own w [] (((w.alloc (.cells (vals (bytesN n.val)) 29)).alloc (.cells (vals (bytesN m.val)) 29)).alloc (.cells (vals z32) 29)) := Own.of_below (by go_grown)
    have a1 := a0.add (g := w.heap.size) (n := 32) (V := (· = .agg (vals (bytesN n.val)))) (Nat.le_refl _) (fun r hr => by cases hr) ⟨_, _, new3_0 .., by rw [vals_size, HN.out], rfl⟩
    have a2 := a1.add (g := w.heap.size + 1) (n := 32) (V := (· = .agg (vals (bytesN m.val)))) (by omega) (by simp) ⟨_, _, new3_1 .., by rw [vals_size, HM.out], rfl⟩
    exact a2.add (g := w.heap.size + 2) (n := 32) (V := fun _ => True) (by omega) (by simp) ⟨_, _, new3_2 .., rfl, trivial⟩
  have hS := hO
  clear hO hs hX hY dX dY
  go_enter Try.func79, Try.ntmps79
  go_wp2_with ((with_reducible refine guard_list ?_); first | (refine held_load 26 _ rfl ?_) | (refine held_load 22 _ rfl ?_) | (refine held_load 68 _ rfl ?_) | (refine held_load 29 _ rfl ?_) | (refine held_load 100 _ rfl ?_))
  change Held (wpList _ _ _ _ _ (((w.alloc (.cells (vals (bytesN n.val)) 29)).alloc (.cells (vals (bytesN m.val)) 29)).alloc (.cells (vals z32) 29)))
  generalize ((w.alloc (.cells (vals (bytesN n.val)) 29)).alloc (.cells (vals (bytesN m.val)) 29)).alloc (.cells (vals z32) 29) = W0 at hS ⊢
  obtain ⟨X, hXe⟩ : ∃ X, dgs (bytesN n.val) = X := ⟨_, rfl⟩
  obtain ⟨Y, hYe⟩ : ∃ Y, dgs (bytesN m.val) = Y := ⟨_, rfl⟩
  rw [hXe, hYe] at HSum
  rw [hXe] at HX
  rw [hYe] at HY
  have HXE := Lib.hid hXe
  have HYE := Lib.hid hYe
  clear hXe hYe
  obtain ⟨M, hM⟩ : ∃ M, M = W0.heap.size := ⟨_, rfl⟩
  have hMB : w.heap.size ≤ M := hM ▸ hS.1.size
  have ltM := hS.lt
  rw [← hM] at ltM
  refine hide_held fun t0 HT => ?_
  have HS : t0.size = 27 := by rw [HT]; rfl
  have h2 : t0[2]? = some (.pointer (some ⟨w.heap.size, 0, none⟩)) := by rw [HT]; rfl
  have h3 : t0[3]? = some (.pointer (some ⟨(w.heap.size + 1), 0, none⟩)) := by rw [HT]; rfl
  have h4 : t0[4]? = some (.pointer (some ⟨(w.heap.size + 2), 0, none⟩)) := by rw [HT]; rfl
  clear HT
  refine wp_list_most 3 (fun i => [8, 9, 5].getD i 0) (fun i => [none, none, some 16].getD i none) (fun i => [(· = .agg (vals (bytesN n.val))), (· = .agg (valsK .i64 X)), (fun _ => True)].getD i (fun _ => True)) (fun w' => Own w [(w.heap.size, 32, (· = .agg (vals (bytesN n.val)))), ((w.heap.size + 1), 32, (· = .agg (vals (bytesN m.val)))), ((w.heap.size + 2), 32, (fun _ => True))] w' ∧ M ≤ w'.heap.size) M
    (by kernel_rfl) (slots_apart (by kernel_rfl)) (slots_lie (by rw [HS]; kernel_rfl)) ⟨hS, Nat.le_of_eq hM⟩ (fun w' h => h.2) (fun w1 w2 h b => ⟨h.1.keep b, Nat.le_trans h.2 b.size⟩) ?_ ?_ ?_
  · clear hS
    intro i o hi ho hA
    have hc : i = 0 ∨ i = 1 ∨ i = 2 := by omega
    rcases hc with rfl | rfl | rfl
    · obtain rfl := Option.some.inj ho
      refine ⟨rfl, fun a w' hS hold hin K hK => ?_⟩
      refine if_always rfl ?_
      exact op_ld_own 32 tNum (.tmp 2) rfl rfl _ (eval_tmp ((hold 2 (slots_not (by kernel_rfl))).trans h2)) hS.1 0 rfl hK
    · obtain rfl := Option.some.inj ho
      refine ⟨rfl, fun a w' hS hold hin K hK => ?_⟩
      obtain ⟨y0, x0, rfl⟩ := hin 0 rfl (by omega) rfl
      refine if_always rfl ?_
      exact op_fn1 _ _ _ _ rfl rfl (eval_tmp x0) (by intro args w; kernel_rfl) (digits_ev _ HN.out (bytesN_byt _) HXE.out _) hK
    · cases hA
  · intro i o sz hi ho hA
    have hc : i = 0 ∨ i = 1 ∨ i = 2 := by omega
    rcases hc with rfl | rfl | rfl
    · cases hA
    · cases hA
    · obtain rfl := Option.some.inj ho
      obtain rfl := Option.some.inj hA
      exact ⟨rfl, rfl, 100, #[.int .i64 0, .int .i64 0, .int .i64 0, .int .i64 0, .int .i64 0, .int .i64 0, .int .i64 0, .int .i64 0, .int .i64 0, .int .i64 0, .int .i64 0, .int .i64 0, .int .i64 0, .int .i64 0, .int .i64 0, .int .i64 0], rfl, fun a w' K h => wp_new 100 #[.int .i64 0, .int .i64 0, .int .i64 0, .int .i64 0, .int .i64 0, .int .i64 0, .int .i64 0, .int .i64 0, .int .i64 0, .int .i64 0, .int .i64 0, .int .i64 0, .int .i64 0, .int .i64 0, .int .i64 0, .int .i64 0] (fun w => by kernel_rfl) h⟩
  clear hS
  intro t1 V1 hs hold hout hall hne hS
  replace HS := hs.trans HS
  replace hS := hS.1
  obtain ⟨g5, h5, b5, r5⟩ : ∃ g, t1[5]? = some (.pointer (some ⟨g, 0, none⟩)) ∧ M ≤ g ∧ ∃ cs ty, V1.heap[g]? = some (.cells cs ty (0, 0)) ∧ cs.size = 16 := by
    obtain ⟨g, p1, p2, ty, cs, p3, p4⟩ := hall 2 (by omega) 16 rfl
    exact ⟨g, p1, p2, cs, ty, p3, p4⟩
  replace hS : Own w [(w.heap.size, 32, (· = .agg (vals (bytesN n.val)))), ((w.heap.size + 1), 32, (· = .agg (vals (bytesN m.val)))), ((w.heap.size + 2), 32, (fun _ => True)), (g5, 16, (fun _ => True))] V1 := hS.add (Nat.le_trans hMB b5) (fun r hr => Nat.ne_of_lt (Nat.lt_of_lt_of_le (ltM r hr) b5)) (Own.any r5)
  obtain ⟨x9, q9, v9⟩ : ∃ x, t1[9]? = some x ∧ ((· = .agg (valsK .i64 X))) x := hout 1 (by omega) rfl
  replace h2 := (hold 2 (slots_not (by kernel_rfl))).trans h2
  replace h3 := (hold 3 (slots_not (by kernel_rfl))).trans h3
  replace h4 := (hold 4 (slots_not (by kernel_rfl))).trans h4
  clear hold hout hs hall hne
  simp only [List.drop_succ_cons, List.drop_zero]
  refine st_own 16 tDig rfl (.tmp 5) (.tmp 9) rfl rfl _ _ (eval_tmp h5) (eval_tmp q9) (V' := (· = .agg (valsK .i64 X))) v9 (by_rowK HX.out.1) hS 3 rfl fun V1' hS' _ => ?_
  replace hS : Own w [(w.heap.size, 32, (· = .agg (vals (bytesN n.val)))), ((w.heap.size + 1), 32, (· = .agg (vals (bytesN m.val)))), ((w.heap.size + 2), 32, (fun _ => True)), (g5, 16, (· = .agg (valsK .i64 X)))] V1' := hS'
  clear hS'
  refine wpList_nil ?_
  obtain ⟨f, e0, hf⟩ := wash HS
  have f2 := hf 2 _ h2
  have f3 := hf 3 _ h3
  have f4 := hf 4 _ h4
  have f5 := hf 5 _ h5
  clear hf
  rw [e0.trans (show _ = #[f 0, f 1, f 2, f 3, f 4, f 5, f 6, f 7, f 8, f 9, f 10, f 11, f 12, f 13, f 14, f 15, f 16, f 17, f 18, f 19, f 20, f 21, f 22, f 23, f 24, f 25, f 26] from by kernel_rfl), f2, f3, f4, f5]
  clear f2 f3 f4 f5
  clear e0
  try dsimp only
  clear h2 h3 h4 h5 q9 v9 b5 r5 ltM hMB hM HS t1 t0 M
  go_wp2_with ((with_reducible refine guard_list ?_); first | (refine held_load 26 _ rfl ?_) | (refine held_load 22 _ rfl ?_) | (refine held_load 68 _ rfl ?_) | (refine held_load 29 _ rfl ?_) | (refine held_load 100 _ rfl ?_))
  obtain ⟨M, hM⟩ : ∃ M, M = V1'.heap.size := ⟨_, rfl⟩
  have hMB : w.heap.size ≤ M := hM ▸ hS.1.size
  have ltM := hS.lt
  rw [← hM] at ltM
  refine hide_held fun t0 HT => ?_
  have HS : t0.size = 27 := by rw [HT]; rfl
  have h2 : t0[2]? = some (.pointer (some ⟨w.heap.size, 0, none⟩)) := by rw [HT]; rfl
  have h3 : t0[3]? = some (.pointer (some ⟨(w.heap.size + 1), 0, none⟩)) := by rw [HT]; rfl
  have h4 : t0[4]? = some (.pointer (some ⟨(w.heap.size + 2), 0, none⟩)) := by rw [HT]; rfl
  have h5 : t0[5]? = some (.pointer (some ⟨g5, 0, none⟩)) := by rw [HT]; rfl
  clear HT
  refine wp_list_most 3 (fun i => [10, 11, 6].getD i 0) (fun i => [none, none, some 16].getD i none) (fun i => [(· = .agg (vals (bytesN m.val))), (· = .agg (valsK .i64 Y)), (fun _ => True)].getD i (fun _ => True)) (fun w' => Own w [(w.heap.size, 32, (· = .agg (vals (bytesN n.val)))), ((w.heap.size + 1), 32, (· = .agg (vals (bytesN m.val)))), ((w.heap.size + 2), 32, (fun _ => True)), (g5, 16, (· = .agg (valsK .i64 X)))] w' ∧ M ≤ w'.heap.size) M
    (by kernel_rfl) (slots_apart (by kernel_rfl)) (slots_lie (by rw [HS]; kernel_rfl)) ⟨hS, Nat.le_of_eq hM⟩ (fun w' h => h.2) (fun w1 w2 h b => ⟨h.1.keep b, Nat.le_trans h.2 b.size⟩) ?_ ?_ ?_
  · clear hS
    intro i o hi ho hA
    have hc : i = 0 ∨ i = 1 ∨ i = 2 := by omega
    rcases hc with rfl | rfl | rfl
    · obtain rfl := Option.some.inj ho
      refine ⟨rfl, fun a w' hS hold hin K hK => ?_⟩
      refine if_always rfl ?_
      exact op_ld_own 32 tNum (.tmp 3) rfl rfl _ (eval_tmp ((hold 3 (slots_not (by kernel_rfl))).trans h3)) hS.1 1 rfl hK
    · obtain rfl := Option.some.inj ho
      refine ⟨rfl, fun a w' hS hold hin K hK => ?_⟩
      obtain ⟨y0, x0, rfl⟩ := hin 0 rfl (by omega) rfl
      refine if_always rfl ?_
      exact op_fn1 _ _ _ _ rfl rfl (eval_tmp x0) (by intro args w; kernel_rfl) (digits_ev _ HM.out (bytesN_byt _) HYE.out _) hK
    · cases hA
  · intro i o sz hi ho hA
    have hc : i = 0 ∨ i = 1 ∨ i = 2 := by omega
    rcases hc with rfl | rfl | rfl
    · cases hA
    · cases hA
    · obtain rfl := Option.some.inj ho
      obtain rfl := Option.some.inj hA
      exact ⟨rfl, rfl, 100, #[.int .i64 0, .int .i64 0, .int .i64 0, .int .i64 0, .int .i64 0, .int .i64 0, .int .i64 0, .int .i64 0, .int .i64 0, .int .i64 0, .int .i64 0, .int .i64 0, .int .i64 0, .int .i64 0, .int .i64 0, .int .i64 0], rfl, fun a w' K h => wp_new 100 #[.int .i64 0, .int .i64 0, .int .i64 0, .int .i64 0, .int .i64 0, .int .i64 0, .int .i64 0, .int .i64 0, .int .i64 0, .int .i64 0, .int .i64 0, .int .i64 0, .int .i64 0, .int .i64 0, .int .i64 0, .int .i64 0] (fun w => by kernel_rfl) h⟩
  clear hS
  intro t1 V2 hs hold hout hall hne hS
  replace HS := hs.trans HS
  replace hS := hS.1
  obtain ⟨g6, h6, b6, r6⟩ : ∃ g, t1[6]? = some (.pointer (some ⟨g, 0, none⟩)) ∧ M ≤ g ∧ ∃ cs ty, V2.heap[g]? = some (.cells cs ty (0, 0)) ∧ cs.size = 16 := by
    obtain ⟨g, p1, p2, ty, cs, p3, p4⟩ := hall 2 (by omega) 16 rfl
    exact ⟨g, p1, p2, cs, ty, p3, p4⟩
  replace hS : Own w [(w.heap.size, 32, (· = .agg (vals (bytesN n.val)))), ((w.heap.size + 1), 32, (· = .agg (vals (bytesN m.val)))), ((w.heap.size + 2), 32, (fun _ => True)), (g5, 16, (· = .agg (valsK .i64 X))), (g6, 16, (fun _ => True))] V2 := hS.add (Nat.le_trans hMB b6) (fun r hr => Nat.ne_of_lt (Nat.lt_of_lt_of_le (ltM r hr) b6)) (Own.any r6)
  obtain ⟨x11, q11, v11⟩ : ∃ x, t1[11]? = some x ∧ ((· = .agg (valsK .i64 Y))) x := hout 1 (by omega) rfl
  replace h2 := (hold 2 (slots_not (by kernel_rfl))).trans h2
  replace h3 := (hold 3 (slots_not (by kernel_rfl))).trans h3
  replace h4 := (hold 4 (slots_not (by kernel_rfl))).trans h4
  replace h5 := (hold 5 (slots_not (by kernel_rfl))).trans h5
  clear hold hout hs hall hne
  simp only [List.drop_succ_cons, List.drop_zero]
  refine st_own 16 tDig rfl (.tmp 6) (.tmp 11) rfl rfl _ _ (eval_tmp h6) (eval_tmp q11) (V' := (· = .agg (valsK .i64 Y))) v11 (by_rowK HY.out.1) hS 4 rfl fun V2' hS' _ => ?_
  replace hS : Own w [(w.heap.size, 32, (· = .agg (vals (bytesN n.val)))), ((w.heap.size + 1), 32, (· = .agg (vals (bytesN m.val)))), ((w.heap.size + 2), 32, (fun _ => True)), (g5, 16, (· = .agg (valsK .i64 X))), (g6, 16, (· = .agg (valsK .i64 Y)))] V2' := hS'
  clear hS'
  refine wpList_nil ?_
  obtain ⟨f, e0, hf⟩ := wash HS
  have f2 := hf 2 _ h2
  have f3 := hf 3 _ h3
  have f4 := hf 4 _ h4
  have f5 := hf 5 _ h5
  have f6 := hf 6 _ h6
  clear hf
  rw [e0.trans (show _ = #[f 0, f 1, f 2, f 3, f 4, f 5, f 6, f 7, f 8, f 9, f 10, f 11, f 12, f 13, f 14, f 15, f 16, f 17, f 18, f 19, f 20, f 21, f 22, f 23, f 24, f 25, f 26] from by kernel_rfl), f2, f3, f4, f5, f6]
  clear f2 f3 f4 f5 f6
  clear e0
  try dsimp only
  clear h2 h3 h4 h5 h6 q11 v11 b6 r6 ltM hMB hM HS t1 t0 M
  go_wp2_with fail
  have HTl := Lib.hid (show (addL X Y).length = 16 by simp [addL, HX.out.1, HY.out.1])
  go_loopw [7] (fun i wr => ∃ k : Nat, k ≤ 16 ∧ i = .int .i64 k ∧ Own w [(w.heap.size, 32, (· = .agg (vals (bytesN n.val)))), ((w.heap.size + 1), 32, (· = .agg (vals (bytesN m.val)))), ((w.heap.size + 2), 32, (fun _ => True)), (g5, 16, (· = .agg (valsK .i64 ((addL X Y).take k ++ X.drop k)))), (g6, 16, (· = .agg (valsK .i64 Y)))] wr) (fun i _ => 16 - (intOf i).toNat)
  case atStart => exact ⟨0, by omega, rfl, hS⟩
  case round =>
    clear hS
    obtain ⟨k, hk, rfl, hS⟩ := hrel
    by_cases hlt : k < 16
    · obtain ⟨t5, R5⟩ := hS.rowK (i := 3) rfl
      obtain ⟨t6, R6⟩ := hS.rowK (i := 4) rfl
      have ca := (row_cell R5 k).trans (valsK_get (by rw [fill_len _ _ _ (by rw [HTl.out, HX.out.1]) (by rw [HTl.out]; omega), HX.out.1]; exact hlt))
      rw [fill_rest _ _ _ _ (Nat.le_refl _) (by rw [HTl.out]; omega)] at ca
      have fa := row_free R5 k
      have cb := (row_cell R6 k).trans (valsK_get (by rw [HY.out.1]; exact hlt))
      have hx := HX.out.nth k
      have hy := HY.out.nth k
      have hS2 := hS.word (i := 3) rfl k (nth X k + nth Y k)
      rw [show (nth X k + nth Y k) = nth (addL X Y) k from (nth_zip _ X Y k (by rw [HX.out.1]; exact hlt) (by rw [HY.out.1]; exact hlt)).symm, fill_step _ _ _ (by rw [HTl.out]; exact hlt) (by rw [HTl.out, HX.out.1])] at hS2
      have e2 : nth X k + nth Y k = nth (addL X Y) k := (nth_zip _ X Y k (by rw [HX.out.1]; exact hlt) (by rw [HY.out.1]; exact hlt)).symm
      simp only [List.set_cons_zero, List.set_cons_succ] at hS2
      have HS2 := Lib.hid hS2
      have HE := Lib.hid e2
      clear hS hS2 e2 R5 R6 HSum HXE HYE HN HM
      generalize nth X k = x at *
      generalize nth Y k = y at *
      go_wp2
      go_region
      go_wp2
      go_roundw
      case rel => exact ⟨k + 1, by omega, by go_num, by rw [HE.out]; exact HS2.out.drew⟩
      case measure => simp [intOf]; omega
    · obtain rfl : k = 16 := by omega
      have e16 : (addL X Y).take 16 ++ X.drop 16 = addL X Y := by rw [List.take_of_length_le (by rw [HTl.out]; omega), List.drop_of_length_le (by rw [HX.out.1]; omega), List.append_nil]
      rw [e16] at hS
      clear e16
      go_wp2_with ((with_reducible refine guard_list ?_); first | (refine held_load 26 _ rfl ?_) | (refine held_load 22 _ rfl ?_) | (refine held_load 68 _ rfl ?_) | (refine held_load 29 _ rfl ?_) | (refine held_load 100 _ rfl ?_))
      obtain ⟨M, hM⟩ : ∃ M, M = wr.heap.size := ⟨_, rfl⟩
      refine hide_held fun t0 HT => ?_
      have HS : t0.size = 27 := by rw [HT]; rfl
      have h2 : t0[2]? = some (.pointer (some ⟨w.heap.size, 0, none⟩)) := by rw [HT]; rfl
      have h3 : t0[3]? = some (.pointer (some ⟨(w.heap.size + 1), 0, none⟩)) := by rw [HT]; rfl
      have h4 : t0[4]? = some (.pointer (some ⟨(w.heap.size + 2), 0, none⟩)) := by rw [HT]; rfl
      have h5 : t0[5]? = some (.pointer (some ⟨g5, 0, none⟩)) := by rw [HT]; rfl
      have h6 : t0[6]? = some (.pointer (some ⟨g6, 0, none⟩)) := by rw [HT]; rfl
      clear HT
      refine wp_list_most 2 (fun i => [25, 26].getD i 0) (fun _ => none) (fun i => [(· = .agg (valsK .i64 (addL X Y))), (· = .agg (vals (bytesN (n + m : F).val)))].getD i (fun _ => True)) (fun w' => Own w [(w.heap.size, 32, (· = .agg (vals (bytesN n.val)))), ((w.heap.size + 1), 32, (· = .agg (vals (bytesN m.val)))), ((w.heap.size + 2), 32, (fun _ => True)), (g5, 16, (· = .agg (valsK .i64 (addL X Y)))), (g6, 16, (· = .agg (valsK .i64 Y)))] w' ∧ M ≤ w'.heap.size) M
        (by kernel_rfl) (slots_apart (by kernel_rfl)) (slots_lie (by rw [HS]; kernel_rfl)) ⟨hS, Nat.le_of_eq hM⟩ (fun w' h => h.2) (fun w1 w2 h b => ⟨h.1.keep b, Nat.le_trans h.2 b.size⟩) ?_ ?_ ?_
      · clear hS
        intro i o hi ho hA
        have hc : i = 0 ∨ i = 1 := by omega
        rcases hc with rfl | rfl
        · obtain rfl := Option.some.inj ho
          refine ⟨rfl, fun a w' hS hold hin K hK => ?_⟩
          refine if_always rfl ?_
          exact op_ld_own 16 tDig (.tmp 5) rfl rfl _ (eval_tmp ((hold 5 (slots_not (by kernel_rfl))).trans h5)) hS.1 3 rfl hK
        · obtain rfl := Option.some.inj ho
          refine ⟨rfl, fun a w' hS hold hin K hK => ?_⟩
          obtain ⟨y0, x0, rfl⟩ := hin 0 rfl (by omega) rfl
          refine if_always rfl ?_
          exact op_fn1 _ _ _ _ rfl rfl (eval_tmp x0) (by intro args w; kernel_rfl) (least_ev (addL X Y) (n + m) _ HTl.out HSum.out.1 HSum.out.2) hK
      · intro i o sz hi ho hA; cases hA
      clear hS
      intro t1 V3 hs hold hout hall hne hS
      replace HS := hs.trans HS
      replace hS := hS.1
      obtain ⟨x26, q26, v26⟩ : ∃ x, t1[26]? = some x ∧ ((· = .agg (vals (bytesN (n + m : F).val)))) x := hout 1 (by omega) rfl
      replace h2 := (hold 2 (slots_not (by kernel_rfl))).trans h2
      replace h3 := (hold 3 (slots_not (by kernel_rfl))).trans h3
      replace h4 := (hold 4 (slots_not (by kernel_rfl))).trans h4
      replace h5 := (hold 5 (slots_not (by kernel_rfl))).trans h5
      replace h6 := (hold 6 (slots_not (by kernel_rfl))).trans h6
      clear hold hout hs hall hne
      simp only [List.drop_succ_cons, List.drop_zero]
      refine st_own 32 tNum rfl (.tmp 4) (.tmp 26) rfl rfl _ _ (eval_tmp h4) (eval_tmp q26) (V' := (· = .agg (vals (bytesN (n + m : F).val)))) v26 (by_num (bytesN_len _)) hS 2 rfl fun V3' hS' _ => ?_
      replace hS : Own w [(w.heap.size, 32, (· = .agg (vals (bytesN n.val)))), ((w.heap.size + 1), 32, (· = .agg (vals (bytesN m.val)))), ((w.heap.size + 2), 32, (· = .agg (vals (bytesN (n + m : F).val)))), (g5, 16, (· = .agg (valsK .i64 (addL X Y)))), (g6, 16, (· = .agg (valsK .i64 Y)))] V3' := hS'
      clear hS'
      refine wpList_nil ?_
      obtain ⟨f, e0, hf⟩ := wash HS
      have f2 := hf 2 _ h2
      have f3 := hf 3 _ h3
      have f4 := hf 4 _ h4
      have f5 := hf 5 _ h5
      have f6 := hf 6 _ h6
      clear hf
      rw [e0.trans (show _ = #[f 0, f 1, f 2, f 3, f 4, f 5, f 6, f 7, f 8, f 9, f 10, f 11, f 12, f 13, f 14, f 15, f 16, f 17, f 18, f 19, f 20, f 21, f 22, f 23, f 24, f 25, f 26] from by kernel_rfl), f2, f3, f4, f5, f6]
      clear f2 f3 f4 f5 f6
      clear e0
      try dsimp only
      clear h2 h3 h4 h5 h6 q26 v26 hM HS t1 t0 M
      obtain ⟨cs, ct, c1, c2, c3⟩ := hS.get (i := 2) rfl
      have hbel := hS.1
      have C3 := Lib.hid c3
      clear hS c3
      go_wp2_with fail
      refine ret_row rfl _ _ _ rfl c1 32 tNum c2 rfl ?_
      exact ⟨_, rfl, C3.out, hbel⟩

theorem dnum_inj : ∀ (l m : List Int), l.length = m.length → (∀ x ∈ l, 0 ≤ x ∧ x < 65536) → (∀ x ∈ m, 0 ≤ x ∧ x < 65536) → dnum l = dnum m → l = m
  | [], [], _, _, _, _ => rfl
  | [], _ :: _, h, _, _, _ => by simp at h
  | _ :: _, [], h, _, _, _ => by simp at h
  | x :: l, y :: m, h, hl, hm, e => by
    have hx := hl x (by simp)
    have hy := hm y (by simp)
    have e' : x + 65536 * dnum l = y + 65536 * dnum m := e
    have exy : x = y := by omega
    have ed : dnum l = dnum m := by omega
    rw [exy, dnum_inj l m (by simpa using h) (fun z hz => hl z (by simp [hz])) (fun z hz => hm z (by simp [hz])) ed]
theorem less_ev (a b L : List Int) (w : World) (ha : Norm a) (hb : Norm b) (hle : dnum b ≤ dnum a) (hL : Norm L) (hd : dnum L = dnum a - dnum b) :
    Calls Try.prog 92 #[.agg (valsK .i64 a), .agg (valsK .i64 b)] w (Gives (· = .agg (valsK .i64 L)) w) :=
  (less_any a b w ha hb hle).mono fun _ _ h => by
    obtain ⟨M, e1, e2, e3, e4⟩ := h
    have : M = L := dnum_inj M L (e2.1.trans hL.1.symm) e2.2 hL.2 (by omega)
    subst this
    exact ⟨_, e1, rfl, e4⟩
theorem neg_val (n : F) : ((0 - n : F).val : Int) = (PI - n.val) % PI := by
  rw [Fin.sub_def]
  show (((P - n.val + 0) % P : Nat) : Int) = _
  have := n.isLt
  rw [← PI_eq]
  push_cast
  rw [Int.add_zero, Int.ofNat_sub (by omega)]
theorem prime08_p {p : List Int} (h : pb 0 = p) (w : World) : Calls Try.prog 77 #[.int .u8 0] w (Gives (· = .agg (vals p)) w) :=
  (prime08_any 0 w (by omega) (by omega)).mono fun _ _ q => ⟨_, q.1, by rw [h], q.2⟩

set_option maxHeartbeats 2000000 in
set_option maxRecDepth 100000 in
theorem neg08_any (n : F) (w : World) : Calls Try.prog 81 #[.agg (vals (bytesN n.val))] w (Gives (· = .agg (vals (bytesN (0 - n : F).val))) w) := by
  obtain ⟨hX, dX⟩ := digits_num n
  have hP := dgs_norm (pb 0) (pb_len _) (pb_byt _ (by omega) (by omega))
  have dP : dnum (dgs (pb 0)) = PI := by rw [dgs_num 16 _ (pb_len _), pb_num]; decide
  have hlt := n.isLt
  have hL := dgs_norm (bytesN (P - n.val)) (bytesN_len _) (bytesN_byt _)
  have dL : dnum (dgs (bytesN (P - n.val))) = PI - n.val := by
    rw [dgs_num 16 _ (bytesN_len _), num_bytesN _ (Nat.lt_of_le_of_lt (Nat.sub_le _ _) (by decide)), ← PI_eq, Int.ofNat_sub (by omega)]
  have hle : dnum (dgs (bytesN n.val)) ≤ dnum (dgs (pb 0)) := by rw [dX, dP, ← PI_eq]; omega
  have hR := neg_val n
  obtain ⟨X, hXe⟩ : ∃ X, dgs (bytesN n.val) = X := ⟨_, rfl⟩
  obtain ⟨Y, hYe⟩ : ∃ Y, dgs (pb 0) = Y := ⟨_, rfl⟩
  obtain ⟨Z, hZe⟩ : ∃ Z, dgs (bytesN (P - n.val)) = Z := ⟨_, rfl⟩
  obtain ⟨p, hpe⟩ : ∃ p, pb 0 = p := ⟨_, rfl⟩
  have hp : p.length = 32 ∧ Byt p := by rw [← hpe]; exact ⟨pb_len _, pb_byt _ (by omega) (by omega)⟩
  rw [hpe] at hYe
  rw [hXe] at hX dX hle
  rw [hpe, hYe] at hP dP hle
  rw [hZe] at hL dL
  have HX := Lib.hid (show Norm X ∧ Norm Y ∧ Norm Z ∧ dnum X ≤ dnum Y ∧ dnum Z = dnum Y - dnum X ∧ dnum Z % PI = ((0 - n : F).val : Int) from ⟨hX, hP, hL, hle, by omega, by rw [dL, hR]⟩)
  have HP := Lib.hid hp
  have HE := Lib.hid (show dgs p = Y ∧ dgs (bytesN n.val) = X ∧ pb 0 = p from ⟨hYe, hXe, hpe⟩)
  have HN := Lib.hid (bytesN_len n.val)
  have hO : Own w [(w.heap.size, 32, (· = .agg (vals (bytesN n.val)))), (w.heap.size + 1, 32, (fun _ => True))] ((w.alloc (.cells (vals (bytesN n.val)) 29)).alloc (.cells (vals z32) 29)) := by
    have a0 : Own w [] ((w.alloc (.cells (vals (bytesN n.val)) 29)).alloc (.cells (vals z32) 29)) := Own.of_below (by go_grown)
    have a1 := a0.add (g := w.heap.size) (n := 32) (V := (· = .agg (vals (bytesN n.val)))) (Nat.le_refl _) (fun r hr => by cases hr) ⟨_, _, new2_0 .., by rw [vals_size, HN.out], rfl⟩
    exact a1.add (g := w.heap.size + 1) (n := 32) (V := fun _ => True) (by omega) (by simp) ⟨_, _, new2_1 .., rfl, trivial⟩
  have hS := hO
  clear hO hX dX hP dP hlt hL dL hle hR hXe hYe hZe hpe hp
  obtain ⟨R, hRe⟩ : ∃ R, (0 - n : F) = R := ⟨_, rfl⟩
  rw [hRe] at HX ⊢
  clear hRe
  go_enter Try.func81, Try.ntmps81
  go_wp2_with fail
  change Code.wp _ _ _ _ ((w.alloc (.cells (vals (bytesN n.val)) 29)).alloc (.cells (vals z32) 29))
  generalize (w.alloc (.cells (vals (bytesN n.val)) 29)).alloc (.cells (vals z32) 29) = W0 at hS ⊢
  obtain ⟨M, hM⟩ : ∃ M, M = W0.heap.size := ⟨_, rfl⟩
  refine hide_frame fun t0 HT => ?_
  have HS : t0.size = 9 := by rw [HT]; rfl
  have h1 : t0[1]? = some (.pointer (some ⟨w.heap.size, 0, none⟩)) := by rw [HT]; rfl
  have h2 : t0[2]? = some (.pointer (some ⟨(w.heap.size + 1), 0, none⟩)) := by rw [HT]; rfl
  clear HT
  refine wp_region_most 6 (fun i => [3, 4, 5, 6, 7, 8].getD i 0) (fun _ => none) (fun i => [(· = .agg (vals p)), (· = .agg (valsK .i64 Y)), (· = .agg (vals (bytesN n.val))), (· = .agg (valsK .i64 X)), (· = .agg (valsK .i64 Z)), (· = .agg (vals (bytesN R.val)))].getD i (fun _ => True)) (fun w' => Own w [(w.heap.size, 32, (· = .agg (vals (bytesN n.val)))), ((w.heap.size + 1), 32, (fun _ => True))] w' ∧ M ≤ w'.heap.size) M
    (by kernel_rfl) (by kernel_rfl) (slots_apart (by kernel_rfl)) (slots_lie (by rw [HS]; kernel_rfl)) ⟨hS.drew, Nat.le_of_eq hM⟩ (fun w' h => h.2) (fun w1 w2 h b => ⟨h.1.keep b, Nat.le_trans h.2 b.size⟩) ?_ ?_ ?_
  · clear hS
    intro i o hi ho hA
    have hc : i = 0 ∨ i = 1 ∨ i = 2 ∨ i = 3 ∨ i = 4 ∨ i = 5 := by omega
    rcases hc with rfl | rfl | rfl | rfl | rfl | rfl
    · obtain rfl := Option.some.inj ho
      refine ⟨rfl, fun a w' hS hold hin K hK => ?_⟩
      refine if_always rfl ?_
      exact op_fn1 _ _ _ _ rfl rfl rfl (by intro args w; kernel_rfl) (prime08_p HE.out.2.2 _) hK
    · obtain rfl := Option.some.inj ho
      refine ⟨rfl, fun a w' hS hold hin K hK => ?_⟩
      obtain ⟨y0, x0, rfl⟩ := hin 0 rfl (by omega) rfl
      refine if_always rfl ?_
      exact op_fn1 _ _ _ _ rfl rfl (eval_tmp x0) (by intro args w; kernel_rfl) (digits_ev _ HP.out.1 HP.out.2 HE.out.1 _) hK
    · obtain rfl := Option.some.inj ho
      refine ⟨rfl, fun a w' hS hold hin K hK => ?_⟩
      refine if_always rfl ?_
      exact op_ld_own 32 tNum (.tmp 1) rfl rfl _ (eval_tmp ((hold 1 (slots_not (by kernel_rfl))).trans h1)) hS.1 0 rfl hK
    · obtain rfl := Option.some.inj ho
      refine ⟨rfl, fun a w' hS hold hin K hK => ?_⟩
      obtain ⟨y2, x2, rfl⟩ := hin 2 rfl (by omega) rfl
      refine if_always rfl ?_
      exact op_fn1 _ _ _ _ rfl rfl (eval_tmp x2) (by intro args w; kernel_rfl) (digits_ev _ HN.out (bytesN_byt _) HE.out.2.1 _) hK
    · obtain rfl := Option.some.inj ho
      refine ⟨rfl, fun a w' hS hold hin K hK => ?_⟩
      obtain ⟨y1, x1, rfl⟩ := hin 1 rfl (by omega) rfl
      obtain ⟨y3, x3, rfl⟩ := hin 3 rfl (by omega) rfl
      refine if_always rfl ?_
      exact op_fn2 _ _ _ _ _ _ rfl rfl (eval_tmp x1) (eval_tmp x3) (by intro args w; kernel_rfl) (less_ev Y X Z _ HX.out.2.1 HX.out.1 HX.out.2.2.2.1 HX.out.2.2.1 HX.out.2.2.2.2.1) hK
    · obtain rfl := Option.some.inj ho
      refine ⟨rfl, fun a w' hS hold hin K hK => ?_⟩
      obtain ⟨y4, x4, rfl⟩ := hin 4 rfl (by omega) rfl
      refine if_always rfl ?_
      exact op_fn1 _ _ _ _ rfl rfl (eval_tmp x4) (by intro args w; kernel_rfl) (least_ev Z R _ HX.out.2.2.1.1 (fun x hx => ⟨(HX.out.2.2.1.2 x hx).1, Int.lt_trans (HX.out.2.2.1.2 x hx).2 (by decide)⟩) HX.out.2.2.2.2.2) hK
  · intro i o sz hi ho hA; cases hA
  clear hS
  intro t1 V1 hs hold hout hall hne hS
  replace HS := hs.trans HS
  replace hS := hS.1
  obtain ⟨x8, q8, v8⟩ : ∃ x, t1[8]? = some x ∧ ((· = .agg (vals (bytesN R.val)))) x := hout 5 (by omega) rfl
  replace h1 := (hold 1 (slots_not (by kernel_rfl))).trans h1
  replace h2 := (hold 2 (slots_not (by kernel_rfl))).trans h2
  clear hold hout hs hall hne
  simp only [List.drop_succ_cons, List.drop_zero]
  refine st_own 32 tNum rfl (.tmp 2) (.tmp 8) rfl rfl _ _ (eval_tmp h2) (eval_tmp q8) (V' := (· = .agg (vals (bytesN R.val)))) v8 (by_num (bytesN_len _)) hS 1 rfl fun V1' hS' _ => ?_
  replace hS : Own w [(w.heap.size, 32, (· = .agg (vals (bytesN n.val)))), ((w.heap.size + 1), 32, (· = .agg (vals (bytesN R.val))))] V1' := hS'
  clear hS'
  refine wpList_nil ?_
  obtain ⟨f, e0, hf⟩ := wash HS
  have f1 := hf 1 _ h1
  have f2 := hf 2 _ h2
  clear hf
  rw [e0.trans (show _ = #[f 0, f 1, f 2, f 3, f 4, f 5, f 6, f 7, f 8] from by kernel_rfl), f1, f2]
  clear f1 f2
  clear e0
  try dsimp only
  clear h1 h2 q8 v8 hM HS t1 t0 M
  obtain ⟨cs, ct, c1, c2, c3⟩ := hS.get (i := 1) rfl
  have hbel := hS.1
  have C3 := Lib.hid c3
  clear hS c3
  go_wp2_with fail
  refine ret_row rfl _ _ _ rfl c1 32 tNum c2 rfl ?_
  exact ⟨_, rfl, C3.out, hbel⟩
theorem neg08_ev {m R : F} (h : (0 - m : F) = R) (w : World) : Calls Try.prog 81 #[.agg (vals (bytesN m.val))] w (Gives (· = .agg (vals (bytesN R.val))) w) := by
  subst h; exact neg08_any m w
theorem add08_ev {n m R : F} (h : n + m = R) (w : World) : Calls Try.prog 79 #[.agg (vals (bytesN n.val)), .agg (vals (bytesN m.val))] w (Gives (· = .agg (vals (bytesN R.val))) w) := by
  subst h; exact add08_any n m w


set_option maxHeartbeats 2000000 in
set_option maxRecDepth 100000 in
theorem sub08_any (n m : F) (w : World) : Calls Try.prog 80 #[.agg (vals (bytesN n.val)), .agg (vals (bytesN m.val))] w (Gives (· = .agg (vals (bytesN (n - m : F).val))) w) := by
  have hR : n + (0 - m : F) = n - m := by grind
  have HN := Lib.hid (bytesN_len n.val)
  have HM := Lib.hid (bytesN_len m.val)
  have hO : Own w [(w.heap.size, 32, (· = .agg (vals (bytesN n.val)))), (w.heap.size + 1, 32, (· = .agg (vals (bytesN m.val)))), (w.heap.size + 2, 32, (fun _ => True))] (((w.alloc (.cells (vals (bytesN n.val)) 29)).alloc (.cells (vals (bytesN m.val)) 29)).alloc (.cells (vals z32) 29)) := by
    have a0 : Own w [] (((w.alloc (.cells (vals (bytesN n.val)) 29)).alloc (.cells (vals (bytesN m.val)) 29)).alloc (.cells (vals z32) 29)) := Own.of_below (by go_grown)
    have a1 := a0.add (g := w.heap.size) (n := 32) (V := (· = .agg (vals (bytesN n.val)))) (Nat.le_refl _) (fun r hr => by cases hr) ⟨_, _, new3_0 .., by rw [vals_size, HN.out], rfl⟩
    have a2 := a1.add (g := w.heap.size + 1) (n := 32) (V := (· = .agg (vals (bytesN m.val)))) (by omega) (by simp) ⟨_, _, new3_1 .., by rw [vals_size, HM.out], rfl⟩
    exact a2.add (g := w.heap.size + 2) (n := 32) (V := fun _ => True) (by omega) (by simp) ⟨_, _, new3_2 .., rfl, trivial⟩
  have hS := hO
  obtain ⟨R, hRe⟩ : ∃ R, (0 - m : F) = R := ⟨_, rfl⟩
  obtain ⟨T, hTe⟩ : ∃ T, (n - m : F) = T := ⟨_, rfl⟩
  rw [hRe, hTe] at hR
  have HE := Lib.hid (show (0 - m : F) = R ∧ n + R = T from ⟨hRe, hR⟩)
  rw [hTe]
  clear hO hRe hR hTe
  go_enter Try.func80, Try.ntmps80
  go_wp2_with fail
  change Code.wp _ _ _ _ (((w.alloc (.cells (vals (bytesN n.val)) 29)).alloc (.cells (vals (bytesN m.val)) 29)).alloc (.cells (vals z32) 29))
  generalize ((w.alloc (.cells (vals (bytesN n.val)) 29)).alloc (.cells (vals (bytesN m.val)) 29)).alloc (.cells (vals z32) 29) = W0 at hS ⊢
  obtain ⟨M, hM⟩ : ∃ M, M = W0.heap.size := ⟨_, rfl⟩
  refine hide_frame fun t0 HT => ?_
  have HS : t0.size = 9 := by rw [HT]; rfl
  have h2 : t0[2]? = some (.pointer (some ⟨w.heap.size, 0, none⟩)) := by rw [HT]; rfl
  have h3 : t0[3]? = some (.pointer (some ⟨(w.heap.size + 1), 0, none⟩)) := by rw [HT]; rfl
  have h4 : t0[4]? = some (.pointer (some ⟨(w.heap.size + 2), 0, none⟩)) := by rw [HT]; rfl
  clear HT
  refine wp_region_most 4 (fun i => [5, 6, 7, 8].getD i 0) (fun _ => none) (fun i => [(· = .agg (vals (bytesN n.val))), (· = .agg (vals (bytesN m.val))), (· = .agg (vals (bytesN R.val))), (· = .agg (vals (bytesN T.val)))].getD i (fun _ => True)) (fun w' => Own w [(w.heap.size, 32, (· = .agg (vals (bytesN n.val)))), ((w.heap.size + 1), 32, (· = .agg (vals (bytesN m.val)))), ((w.heap.size + 2), 32, (fun _ => True))] w' ∧ M ≤ w'.heap.size) M
    (by kernel_rfl) (by kernel_rfl) (slots_apart (by kernel_rfl)) (slots_lie (by rw [HS]; kernel_rfl)) ⟨hS.drew, Nat.le_of_eq hM⟩ (fun w' h => h.2) (fun w1 w2 h b => ⟨h.1.keep b, Nat.le_trans h.2 b.size⟩) ?_ ?_ ?_
  · clear hS
    intro i o hi ho hA
    have hc : i = 0 ∨ i = 1 ∨ i = 2 ∨ i = 3 := by omega
    rcases hc with rfl | rfl | rfl | rfl
    · obtain rfl := Option.some.inj ho
      refine ⟨rfl, fun a w' hS hold hin K hK => ?_⟩
      refine if_always rfl ?_
      exact op_ld_own 32 tNum (.tmp 2) rfl rfl _ (eval_tmp ((hold 2 (slots_not (by kernel_rfl))).trans h2)) hS.1 0 rfl hK
    · obtain rfl := Option.some.inj ho
      refine ⟨rfl, fun a w' hS hold hin K hK => ?_⟩
      refine if_always rfl ?_
      exact op_ld_own 32 tNum (.tmp 3) rfl rfl _ (eval_tmp ((hold 3 (slots_not (by kernel_rfl))).trans h3)) hS.1 1 rfl hK
    · obtain rfl := Option.some.inj ho
      refine ⟨rfl, fun a w' hS hold hin K hK => ?_⟩
      obtain ⟨y1, x1, rfl⟩ := hin 1 rfl (by omega) rfl
      refine if_always rfl ?_
      exact op_fn1 _ _ _ _ rfl rfl (eval_tmp x1) (by intro args w; kernel_rfl) (neg08_ev HE.out.1 _) hK
    · obtain rfl := Option.some.inj ho
      refine ⟨rfl, fun a w' hS hold hin K hK => ?_⟩
      obtain ⟨y0, x0, rfl⟩ := hin 0 rfl (by omega) rfl
      obtain ⟨y2, x2, rfl⟩ := hin 2 rfl (by omega) rfl
      refine if_always rfl ?_
      exact op_fn2 _ _ _ _ _ _ rfl rfl (eval_tmp x0) (eval_tmp x2) (by intro args w; kernel_rfl) (add08_ev HE.out.2 _) hK
  · intro i o sz hi ho hA; cases hA
  clear hS
  intro t1 V1 hs hold hout hall hne hS
  replace HS := hs.trans HS
  replace hS := hS.1
  obtain ⟨x8, q8, v8⟩ : ∃ x, t1[8]? = some x ∧ ((· = .agg (vals (bytesN T.val)))) x := hout 3 (by omega) rfl
  replace h2 := (hold 2 (slots_not (by kernel_rfl))).trans h2
  replace h3 := (hold 3 (slots_not (by kernel_rfl))).trans h3
  replace h4 := (hold 4 (slots_not (by kernel_rfl))).trans h4
  clear hold hout hs hall hne
  simp only [List.drop_succ_cons, List.drop_zero]
  refine st_own 32 tNum rfl (.tmp 4) (.tmp 8) rfl rfl _ _ (eval_tmp h4) (eval_tmp q8) (V' := (· = .agg (vals (bytesN T.val)))) v8 (by_num (bytesN_len _)) hS 2 rfl fun V1' hS' _ => ?_
  replace hS : Own w [(w.heap.size, 32, (· = .agg (vals (bytesN n.val)))), ((w.heap.size + 1), 32, (· = .agg (vals (bytesN m.val)))), ((w.heap.size + 2), 32, (· = .agg (vals (bytesN T.val))))] V1' := hS'
  clear hS'
  refine wpList_nil ?_
  obtain ⟨f, e0, hf⟩ := wash HS
  have f2 := hf 2 _ h2
  have f3 := hf 3 _ h3
  have f4 := hf 4 _ h4
  clear hf
  rw [e0.trans (show _ = #[f 0, f 1, f 2, f 3, f 4, f 5, f 6, f 7, f 8] from by kernel_rfl), f2, f3, f4]
  clear f2 f3 f4
  clear e0
  try dsimp only
  clear h2 h3 h4 q8 v8 hM HS t1 t0 M
  obtain ⟨cs, ct, c1, c2, c3⟩ := hS.get (i := 2) rfl
  have hbel := hS.1
  have C3 := Lib.hid c3
  clear hS c3
  go_wp2_with fail
  refine ret_row rfl _ _ _ rfl c1 32 tNum c2 rfl ?_
  exact ⟨_, rfl, C3.out, hbel⟩

set_option maxRecDepth 100000 in
theorem eql_num8 {p q : Operand} (xs ys : List Int) (hx : xs.length = 32) (hy : ys.length = 32) {b : Bool} (hb : decide (xs = ys) = b) (w : World) :
    (do eqGuard .eql 29 p q (.agg (vals xs)) (.agg (vals ys)); binOp .eql 29 (.agg (vals xs)) (.agg (vals ys)) : Sem Value).run Try.prog w = .ok (.bool b) w := by
  have h1 : (eqGuard .eql 29 p q (.agg (vals xs)) (.agg (vals ys))).run Try.prog w = .ok () w := by kernel_rfl
  have h2 := run_eql_vals (P := Try.prog) w .u8 29 5 32 Try.underlying29 Try.underlying5 (fun w => by kernel_rfl) xs ys hx hy
  rw [Sem.run_bind, h1, ← hb]
  exact h2
theorem bytes_zero (n : F) : decide (bytesN n.val = z32) = decide (n = 0) := by
  have e0 : z32 = bytesN 0 := by decide
  refine decide_eq_decide.2 ⟨fun h => ?_, fun h => by rw [h]; exact e0.symm⟩
  have h1 := num_bytesN n.val (Nat.lt_trans n.isLt (by decide))
  rw [h, e0, num_bytesN 0 (by decide)] at h1
  exact Fin.ext (by show n.val = 0; omega)

set_option maxHeartbeats 2000000 in
set_option maxRecDepth 100000 in
theorem zero08_any (n : F) (w : World) : Calls Try.prog 46 #[.agg (vals (bytesN n.val))] w (Gives (· = .bool (decide (n = 0))) w) := by
  obtain ⟨b, hb⟩ : ∃ b, decide (n = 0) = b := ⟨_, rfl⟩
  have HB := Lib.hid ((bytes_zero n).trans hb)
  rw [hb]
  have HN := Lib.hid (bytesN_len n.val)
  have hO : Own w [(w.heap.size, 32, (· = .agg (vals (bytesN n.val))))] (w.alloc (.cells (vals (bytesN n.val)) 29)) := by
    have a0 : Own w [] (w.alloc (.cells (vals (bytesN n.val)) 29)) := Own.of_below (by go_grown)
    exact a0.add (g := w.heap.size) (n := 32) (V := (· = .agg (vals (bytesN n.val)))) (Nat.le_refl _) (fun r hr => by cases hr) ⟨_, _, heap_alloc_new w _, by rw [vals_size, HN.out], rfl⟩
  have hS := hO
  clear hO hb
  go_enter Try.func46, Try.ntmps46
  go_wp2_with ((with_reducible refine guard_list ?_); first | (refine held_load 26 _ rfl ?_) | (refine held_load 22 _ rfl ?_) | (refine held_load 68 _ rfl ?_) | (refine held_load 29 _ rfl ?_) | (refine held_load 100 _ rfl ?_))
  generalize w.alloc (.cells (vals (bytesN n.val)) 29) = W0 at hS ⊢
  obtain ⟨M, hM⟩ : ∃ M, M = W0.heap.size := ⟨_, rfl⟩
  refine hide_held fun t0 HT => ?_
  have HS : t0.size = 6 := by rw [HT]; rfl
  have h1 : t0[1]? = some (.pointer (some ⟨w.heap.size, 0, none⟩)) := by rw [HT]; rfl
  clear HT
  refine wp_list_all 3 (fun i => [3, 4, 5, 2].getD i 0) (fun i => [(· = .agg (vals (bytesN n.val))), (· = .agg (vals z32)), (· = .bool b), (· = .bool b)].getD i (fun _ => True)) (fun w' => Own w [(w.heap.size, 32, (· = .agg (vals (bytesN n.val))))] w' ∧ M ≤ w'.heap.size)
    (by kernel_rfl) (by kernel_rfl) (slots_apart (by kernel_rfl)) (slots_lie (by rw [HS]; kernel_rfl)) ⟨hS, Nat.le_of_eq hM⟩ (fun w1 w2 h b => ⟨h.1.keep b, Nat.le_trans h.2 b.size⟩) ?_ ?_
  · clear hS
    intro i o hi ho
    have hc : i = 0 ∨ i = 1 ∨ i = 2 ∨ i = 3 := by omega
    rcases hc with rfl | rfl | rfl | rfl
    · obtain rfl := Option.some.inj ho
      refine ⟨rfl, fun a w' hS hold hin K hK => ?_⟩
      refine if_always rfl ?_
      exact op_ld_own 32 tNum (.tmp 1) rfl rfl _ (eval_tmp ((hold 1 (slots_not (by kernel_rfl))).trans h1)) hS.1 0 rfl hK
    · obtain rfl := Option.some.inj ho
      refine ⟨rfl, fun a w' hS hold hin K hK => ?_⟩
      refine if_always rfl ?_
      exact op_val (V := (· = .agg (vals z32))) (.agg (vals z32)) rfl (by kernel_rfl) rfl hK
    · obtain rfl := Option.some.inj ho
      refine ⟨rfl, fun a w' hS hold hin K hK => ?_⟩
      obtain ⟨y0, x0, rfl⟩ := hin 0 rfl (by omega)
      obtain ⟨y1, x1, rfl⟩ := hin 1 rfl (by omega)
      refine if_always rfl ?_
      exact op_bin (V := (· = .bool b)) _ _ _ _ _ _ _ (.bool b) rfl rfl (eval_tmp x0) (eval_tmp x1) (fun w => eql_num8 _ _ HN.out rfl HB.out w) rfl hK
    · obtain rfl := Option.some.inj ho
      refine ⟨rfl, fun a w' hS hold hin K hK => ?_⟩
      obtain ⟨y2, x2, rfl⟩ := hin 2 rfl (by omega)
      refine if_always rfl ?_
      exact op_assign (V := (· = .bool b)) _ _ rfl rfl (eval_tmp x2) rfl hK
  clear hS
  intro t1 V1 hs hold hout hS
  replace HS := hs.trans HS
  replace hS := hS.1
  obtain ⟨_, q2, rfl⟩ : ∃ x, t1[2]? = some x ∧ x = (.bool b : Value) := hout 3 (by omega)
  replace h1 := (hold 1 (slots_not (by kernel_rfl))).trans h1
  clear hold hout hs
  obtain ⟨f, e0, hf⟩ := wash HS
  have f1 := hf 1 _ h1
  have f2 := hf 2 _ q2
  clear hf
  rw [e0.trans (show _ = #[f 0, f 1, f 2, f 3, f 4, f 5] from by kernel_rfl), f1, f2]
  clear f1 f2
  clear e0
  try dsimp only
  clear h1 q2 hM HS t1 t0 M
  go_wp2_with fail
  exact ⟨rfl, .bool b, by kernel_rfl, _, rfl, rfl, hS.1⟩
end Go.Proofs.Ytciakfhjjnmeeaa
