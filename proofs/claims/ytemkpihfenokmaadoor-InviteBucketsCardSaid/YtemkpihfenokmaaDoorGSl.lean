/- Slices of rows: literals, places, lengths, loads, appends. Said over any program. -/
import Derived.Test.YtemkpihfenokmaaDoorGMem
import Derived.Deep.AppendLies
import Derived.Deep.MidRow
import Derived.Great.BuildSlice
import Derived.Laws.AppendOwn
namespace Go.Proofs.YtemkpihfenokmaaDoor

/-- The cells xs are rows of k cells each, the i-th related to the i-th of l. -/
def RowsOf {α : Type} (k : Nat) (R : α → Value → Prop) : List Value → List α → Prop
  | xs, [] => xs = []
  | xs, a :: l => ∃ cs ys : List Value, xs = cs ++ ys ∧ cs.length = k ∧ R a (.agg cs.toArray) ∧ RowsOf k R ys l

theorem RowsOf.nil {α : Type} {k : Nat} {R : α → Value → Prop} : RowsOf k R [] ([] : List α) := rfl
theorem RowsOf.one {α : Type} {k : Nat} {R : α → Value → Prop} {cs : List Value} {a : α} (h : cs.length = k) (hR : R a (.agg cs.toArray)) : RowsOf k R cs [a] := ⟨cs, [], by simp, h, hR, rfl⟩
theorem RowsOf.len {α : Type} {k : Nat} {R : α → Value → Prop} : ∀ {l : List α} {xs : List Value}, RowsOf k R xs l → xs.length = l.length * k
  | [], xs, h => by rw [show xs = [] from h]; simp
  | a :: l, xs, ⟨cs, ys, e, hc, _, h⟩ => by rw [e, List.length_append, hc, h.len, List.length_cons, Nat.add_mul]; omega
theorem RowsOf.append {α : Type} {k : Nat} {R : α → Value → Prop} {m : List α} {ys : List Value} (h2 : RowsOf k R ys m) : ∀ {l : List α} {xs : List Value}, RowsOf k R xs l → RowsOf k R (xs ++ ys) (l ++ m)
  | [], xs, h => by rw [show xs = [] from h]; exact h2
  | a :: l, xs, ⟨cs, zs, e, hc, hR, h⟩ => ⟨cs, zs ++ ys, by rw [e, List.append_assoc], hc, hR, RowsOf.append h2 h⟩
theorem RowsOf.get {α : Type} {k : Nat} {R : α → Value → Prop} : ∀ {l : List α} {xs : List Value} {i : Nat} {a : α}, RowsOf k R xs l → l[i]? = some a → ∃ cs : List Value, cs.length = k ∧ R a (.agg cs.toArray) ∧ ∀ j, j < k → xs[i * k + j]? = cs[j]?
  | [], _, _, _, _, h2 => by simp at h2
  | b :: l, xs, 0, a, ⟨cs, ys, e, hc, hR, _⟩, h2 => by
    obtain rfl : b = a := by simpa using h2
    exact ⟨cs, hc, hR, fun j hj => by rw [e, Nat.zero_mul, Nat.zero_add, List.getElem?_append_left (by omega)]⟩
  | b :: l, xs, i + 1, a, ⟨cs, ys, e, hc, _, h⟩, h2 => by
    obtain ⟨ds, hd, hR, hg⟩ := h.get (i := i) (a := a) (by simpa using h2)
    exact ⟨ds, hd, hR, fun j hj => by
      rw [e, List.getElem?_append_right (by rw [hc, Nat.add_mul]; omega), ← hg j hj, hc]
      congr 1
      rw [Nat.add_mul]; omega⟩

section
variable {P : Program} {o : Oper} {a : Act} {w : World} {Q : Exit → Act → World → Prop} {K : Act → World → Prop}
/-- A literal of one part. -/
theorem op_lit1 (t e : TypeId) (x : Operand) (ho : o.op = .buildSlice t 1 #[(0, x)]) {d : Nat} (hd : o.dst = some d) (ie : TypeInfo) (z : Value) (k : Nat) (hk : 0 < k ∧ k ≤ 16777216)
    (hu : P.underlying t = some (.slice e)) (hie : P.info? e = some ie) (hz : ie.zero = some z) (hsz : ie.size = k) (cs : Array Value) (hx : a.eval x = .agg cs) (hcs : cs.size = k)
    (h : K (a.put (some d) (.slice (some ⟨w.heap.size, 0, none⟩) 1 1)) (w.alloc (.cells cs e))) : o.wp P a w K Q := by
  subst hsz
  refine Go.wp_buildSlice t e 1 #[(0, x)] ho cs ie z hu hie hz (by omega) (by omega) ?_ (by rw [hd]; exact h)
  have hf := Great.fill_whole (s := ie.size) hk.1 [.agg cs] ((Array.range (1 * ie.size)).map (z.cells[· % z.cells.size]!)) (by intro v hv; obtain rfl := List.mem_singleton.1 hv; exact hcs) (by simp)
  have hc : (Value.agg cs).cells = cs := rfl
  simpa [hx, hc] using hf
end

open Go.RowKit
section
variable {P : Program} {o : Oper} {w b : World} {Q : Exit → Act → World → Prop} {L : List (Nat × Nat × (Value → Prop))} {ops : Array Oper} {rest : List Oper} {df : List Deferred} {tm : Array Value}
theorem tl_lit1 (k : Nat) (t e : TypeId) (x : Operand) (hgd : o.guard = none) (ho : o.op = .buildSlice t 1 #[(0, x)]) (d : Nat) (hd : o.dst = some d) (hds : d < tm.size) (hk : 0 < k ∧ k ≤ 16777216)
    (hu : P.underlying t = some (.slice e)) (hie : (P.info? e).map (·.size) = some k) (hz : ((P.info? e).bind (·.zero)).isSome = true) (v : Value) (hx : Act.eval ⟨tm, df⟩ x = v) {V : Value → Prop} (hv : V v) (hvc : ∀ v, V v → ∃ cs, v = .agg cs ∧ cs.size = k ∧ cs.all (·.oneCell') = true) (h : Own b L w)
    (hK : ∀ g t' w', Own b (L ++ [(g, k, V)]) w' → t'.size = tm.size → t'[d]? = some (.slice (some ⟨g, 0, none⟩) 1 1) → (∀ j, j ≠ d → t'[j]? = tm[j]?) → wpList P ops Q rest ⟨t', df⟩ w') : wpList P ops Q (o :: rest) ⟨tm, df⟩ w := by
  obtain ⟨cs, rfl, h2, h3⟩ := hvc v hv
  obtain ⟨ie, h4, hsz⟩ := Option.map_eq_some_iff.1 hie
  rw [h4, Option.bind_some] at hz
  obtain ⟨z, h5⟩ := Option.isSome_iff_exists.1 hz
  refine wpList_step fun K hKK => if_always hgd ?_
  refine op_lit1 t e x ho hd ie z k hk hu h4 h5 hsz cs hx h2 (hKK _ _ ?_)
  refine hK w.heap.size (tm.setIfInBounds d _) _ ?_ (by simp) (by simp [hds]) (fun j hj => by rw [Array.getElem?_setIfInBounds, if_neg (fun e => hj e.symm)])
  exact (h.keep ((Below.refl _ _).alloc (Nat.le_refl _) _)).add (h.1.size) (fun r hr => Nat.ne_of_lt (h.lt r hr)) ⟨cs, e, heap_alloc_new w _, h2, hv⟩
end

open Go.RowKit

/-- One cell by value. -/
def CellT (P : Program) (ty : TypeId) : Prop :=
  ∃ d, P.underlying ty = some d ∧ (match d with | .struct _ | .array _ _ => false | _ => true) = true

theorem run_load_cell {P : Program} {w : World} {ty : TypeId} (hT : CellT P ty) {ad : Addr} {v : Value} (h : w.cell? ad = some v) : (Instr.loadAt ty (.pointer (some ad))).run P w = .ok v w := by
  obtain ⟨d, h1, h2⟩ := hT
  have hagg : (isAgg ty).run P w = .ok false w := by
    unfold isAgg
    rw [Sem.run_bind, run_underlying h1 w]
    cases d <;> simp_all
  simp only [Instr.loadAt, Instr.sureAddr, loadVar, Sem.run_bind, Sem.run_pure, Result.andThen_ok, hagg]
  go_simp

section
variable {P : Program} {o : Oper} {a : Act} {w b : World} {Q : Exit → Act → World → Prop} {V : Value → Prop} {d : Nat} {K : Act → World → Prop} {L : List (Nat × Nat × (Value → Prop))}
/-- The address of a field (or of a place of an array). -/
theorem op_field (S : TypeId) (x : Operand) (f : Nat) (u v : Value) (ho : o.op = .fieldAddr S x f) (hd : o.dst = some d) (hx : a.eval x = u) (hrun : ∀ w, (Instr.fieldAt S u f).run P w = .ok v w)
    (hK : ∀ x w', x = v → Below w.heap.size w w' → K (a.put (some d) x) w') : o.wp P a w K Q := by
  refine op_val (V := (· = v)) v hd ?_ rfl hK
  unfold execOp; rw [ho]
  show ((do let z ← Instr.fieldAt S (a.eval x) f; pure (Next.value z)) : Sem Next).run P w = _
  rw [hx, Sem.run_bind, hrun w]
  rfl
theorem op_cell {ty : TypeId} (hT : CellT P ty) (x : Operand) (ad : Addr) (ho : o.op = .load ty x) (hd : o.dst = some d) (hx : a.eval x = .pointer (some ad)) (v : Value) (h : w.cell? ad = some v)
    (hK : ∀ x w', x = v → Below w.heap.size w w' → K (a.put (some d) x) w') : o.wp P a w K Q := by
  refine op_val (V := (· = v)) v hd ?_ rfl hK
  unfold execOp; rw [ho]
  show ((do let z ← Instr.loadAt ty (a.eval x); pure (Next.value z)) : Sem Next).run P w = _
  rw [hx, Sem.run_bind, run_load_cell hT h]
  rfl
theorem op_cell_own {ty : TypeId} (hT : CellT P ty) (x : Operand) (g j : Nat) (ho : o.op = .load ty x) (hd : o.dst = some d) (hx : a.eval x = .pointer (some ⟨g, j, none⟩)) (h : Own b L w) (i n : Nat) (c : Array Value) (hi : L[i]? = some (g, n, (· = .agg c))) (v : Value) (hv : c[j]? = some v)
    (hK : ∀ x w', x = v → Below w.heap.size w w' → K (a.put (some d) x) w') : o.wp P a w K Q := by
  obtain ⟨cs, t, h1, _, h3⟩ := h.get hi
  have h3' : Value.agg cs = .agg c := h3
  injection h3' with h3'
  subst h3'
  exact op_cell hT x ⟨g, j, none⟩ ho hd hx v (by rw [cell_of_row w g j cs t (0, 0) h1]; exact hv) hK
end
section
variable {P : Program} {o : Oper} {a : Act} {w b : World} {Q : Exit → Act → World → Prop} {K : Act → World → Prop} {L : List (Nat × Nat × (Value → Prop))} {ops : Array Oper} {rest : List Oper} {df : List Deferred} {tm : Array Value}
/-- A literal of two parts. -/
theorem op_lit2 (t e : TypeId) (x y : Operand) (ho : o.op = .buildSlice t 2 #[(0, x), (1, y)]) {d : Nat} (hd : o.dst = some d) (ie : TypeInfo) (z : Value) (k : Nat) (hk : 0 < k ∧ k ≤ 8388608)
    (hu : P.underlying t = some (.slice e)) (hie : P.info? e = some ie) (hz : ie.zero = some z) (hsz : ie.size = k) (cs ds : Array Value) (hx : a.eval x = .agg cs) (hy : a.eval y = .agg ds) (hcs : cs.size = k) (hds : ds.size = k)
    (h : K (a.put (some d) (.slice (some ⟨w.heap.size, 0, none⟩) 2 2)) (w.alloc (.cells (cs ++ ds) e))) : o.wp P a w K Q := by
  subst hsz
  refine Go.wp_buildSlice t e 2 #[(0, x), (1, y)] ho (cs ++ ds) ie z hu hie hz (by omega) (by omega) ?_ (by rw [hd]; exact h)
  have hf := Great.fill_whole (s := ie.size) hk.1 [.agg cs, .agg ds] ((Array.range (2 * ie.size)).map (z.cells[· % z.cells.size]!)) (by
    intro v hv
    rcases List.mem_cons.1 hv with rfl | hv
    · exact hcs
    · obtain rfl := List.mem_singleton.1 hv; exact hds) (by simp)
  have hc : (Value.agg cs).cells = cs := rfl
  have hc2 : (Value.agg ds).cells = ds := rfl
  have e : (cs.toList ++ ds.toList).toArray = cs ++ ds := by apply Array.toList_inj.1; simp
  rw [← e]
  simpa [hx, hy, hc, hc2] using hf
theorem tl_lit2 (k : Nat) (t e : TypeId) (x y : Operand) (hgd : o.guard = none) (ho : o.op = .buildSlice t 2 #[(0, x), (1, y)]) (d : Nat) (hd : o.dst = some d) (hds : d < tm.size) (hk : 0 < k ∧ k ≤ 8388608)
    (hu : P.underlying t = some (.slice e)) (hie : (P.info? e).map (·.size) = some k) (hz : ((P.info? e).bind (·.zero)).isSome = true) (c1 c2 : Array Value) (hx : Act.eval ⟨tm, df⟩ x = .agg c1) (hy : Act.eval ⟨tm, df⟩ y = .agg c2)
    (h1 : c1.size = k) (h2 : c2.size = k) (h : Own b L w)
    (hK : ∀ g t' w', Own b (L ++ [(g, 2 * k, (· = .agg (c1 ++ c2)))]) w' → t'.size = tm.size → t'[d]? = some (.slice (some ⟨g, 0, none⟩) 2 2) → (∀ j, j ≠ d → t'[j]? = tm[j]?) → wpList P ops Q rest ⟨t', df⟩ w') : wpList P ops Q (o :: rest) ⟨tm, df⟩ w := by
  obtain ⟨ie, h4, hsz⟩ := Option.map_eq_some_iff.1 hie
  rw [h4, Option.bind_some] at hz
  obtain ⟨z, h5⟩ := Option.isSome_iff_exists.1 hz
  refine wpList_step fun K hKK => if_always hgd ?_
  refine op_lit2 t e x y ho hd ie z k hk hu h4 h5 hsz c1 c2 hx hy h1 h2 (hKK _ _ ?_)
  refine hK w.heap.size (tm.setIfInBounds d _) _ ?_ (by simp) (by simp [hds]) (fun j hj => by rw [Array.getElem?_setIfInBounds, if_neg (fun e => hj e.symm)])
  exact (h.keep ((Below.refl _ _).alloc (Nat.le_refl _) _)).add (h.1.size) (fun r hr => Nat.ne_of_lt (h.lt r hr)) ⟨c1 ++ c2, e, heap_alloc_new w _, by rw [Array.size_append, h1, h2]; omega, rfl⟩
end
/-- What a call hands back: a slice of rows of k cells, of its own. -/
def Fresh {α : Type} (k : Nat) (R : α → Value → Prop) (l : List α) (w : World) (e : Ending) (w' : World) : Prop :=
  Below w.heap.size w w' ∧ ((l = [] ∧ e = .returned (.slice none 0 0)) ∨ l ≠ [] ∧ ∃ g cs ty, e = .returned (.slice (some ⟨g, 0, none⟩) l.length l.length) ∧ w.heap.size ≤ g ∧ w'.heap[g]? = some (.cells cs ty (0, 0)) ∧ RowsOf k R cs.toList l)
theorem Fresh.one {α : Type} {k : Nat} {R : α → Value → Prop} {x : α} {w w' : World} {L : List (Nat × Nat × (Value → Prop))} {g : Nat} {V : Value → Prop} (i : Nat) (h : Own w L w') (hi : L[i]? = some (g, k, V)) (hV : ∀ v, V v → R x v) : Fresh k R [x] w (.returned (.slice (some ⟨g, 0, none⟩) 1 1)) w' := by
  obtain ⟨cs, t, h1, h2, h3⟩ := h.get hi
  exact ⟨h.1, .inr ⟨by simp, g, cs, t, rfl, h.ge hi, h1, RowsOf.one (by simpa using h2) (hV _ (by simpa using h3))⟩⟩
theorem Fresh.two {α : Type} {k : Nat} {R : α → Value → Prop} {x y : α} {w w' : World} {L : List (Nat × Nat × (Value → Prop))} {g n : Nat} {c1 c2 : Array Value} (i : Nat) (h : Own w L w') (hi : L[i]? = some (g, n, (· = .agg (c1 ++ c2)))) (h1 : c1.size = k) (h2 : c2.size = k) (hx : R x (.agg c1)) (hy : R y (.agg c2)) : Fresh k R [x, y] w (.returned (.slice (some ⟨g, 0, none⟩) 2 2)) w' := by
  obtain ⟨cs, t, e1, e2, e3⟩ := h.get hi
  have e3' : Value.agg cs = .agg (c1 ++ c2) := e3
  injection e3' with e3'
  subst e3'
  exact ⟨h.1, .inr ⟨by simp, g, _, t, rfl, h.ge hi, e1, c1.toList, c2.toList, by simp, by simpa using h1, by simpa using hx, c2.toList, [], by simp, by simpa using h2, by simpa using hy, rfl⟩⟩

open Go.RowKit

/-- From address ad on lie the cells cs. -/
def CellsAt (w : World) (ad : Addr) (cs : Array Value) : Prop := ∀ j v, cs[j]? = some v → w.cell? (ad.add j) = some v
theorem add_block (a : Addr) (j : Nat) : (a.add j).block = a.block := by unfold Addr.add; split <;> rfl
theorem CellsAt.under {w w' : World} {ad : Addr} {cs : Array Value} {B : Nat} (h : CellsAt w ad cs) (hb : Below B w w') (hlt : ad.block < B) : CellsAt w' ad cs := fun j v hv => by
  rw [← h j v hv]
  exact World.cell?_of_block (by rw [add_block]; exact hb.block _ hlt)
theorem add_lit (g j : Nat) : (⟨g, 0, none⟩ : Addr).add j = ⟨g, j, none⟩ := by unfold Addr.add; split <;> simp_all
theorem add_twice (a : Addr) (i j : Nat) : (a.add i).add j = a.add (i + j) := by
  unfold Addr.add
  by_cases h1 : i = 0 <;> by_cases h2 : j = 0 <;> simp_all
  omega
theorem run_load_at {P : Program} {w : World} {ad : Addr} {ty : TypeId} {n : Nat} {cs : Array Value} (hT : RowT P ty n) (hn : cs.size = n) (h : CellsAt w ad cs) : (Instr.loadAt ty (.pointer (some ad))).run P w = .ok (.agg cs) w := by
  obtain ⟨d, h1, h2, h3⟩ := hT
  subst hn
  have hl : (loadCells ad cs.size).run P w = .ok cs w := run_loadCells_list (P := P) w ad cs.toList (fun j v hv => h j v (by simpa using hv))
  obtain ⟨i, hi, hs⟩ := Option.map_eq_some_iff.1 h3
  have hagg : (isAgg ty).run P w = .ok true w := by
    unfold isAgg
    rw [Sem.run_bind, run_underlying h1 w]
    cases d <;> simp_all
  simp [Instr.loadAt, Instr.sureAddr, loadVar, Sem.run_bind, hagg, sizeOf, typeInfo, hi, hs, hl]

/-- The first rows of a block are those of the list l. -/
def LRow {α : Type} (k : Nat) (R : α → Value → Prop) (l : List α) (v : Value) : Prop := ∃ cs, v = .agg cs ∧ RowsOf k R (cs.toList.take (l.length * k)) l
theorem RowsOf.one_cells {α : Type} {k : Nat} {R : α → Value → Prop} (hone : ∀ u v, R u v → ∃ cs, v = .agg cs ∧ cs.all (·.oneCell') = true) : ∀ {l : List α} {xs : List Value}, RowsOf k R xs l → ∀ u ∈ xs, u.oneCell' = true
  | [], xs, h, u, hu => by rw [show xs = [] from h] at hu; cases hu
  | a :: l, xs, ⟨cs, ys, e, _, hR, h⟩, u, hu => by
    rw [e] at hu
    rcases List.mem_append.1 hu with h1 | h1
    · obtain ⟨ds, e2, h2⟩ := hone _ _ hR
      injection e2 with e2
      subst e2
      rw [Array.all_eq_true] at h2
      obtain ⟨j, hj, rfl⟩ := List.getElem_of_mem h1
      have := h2 j (by simpa using hj)
      rw [List.getElem_toArray] at this
      exact this
    · exact h.one_cells hone u h1

section
variable {P : Program} {o : Oper} {a : Act} {w b : World} {Q : Exit → Act → World → Prop} {d : Nat} {K : Act → World → Prop} {L : List (Nat × Nat × (Value → Prop))}
theorem op_ld_at (n : Nat) {ty : TypeId} (hT : RowT P ty n) (x : Operand) (ho : o.op = .load ty x) (hd : o.dst = some d) (ad : Addr) (hx : a.eval x = .pointer (some ad)) (cs : Array Value) (hn : cs.size = n) (h : CellsAt w ad cs)
    (hK : ∀ x w', x = .agg cs → Below w.heap.size w w' → K (a.put (some d) x) w') : o.wp P a w K Q := by
  refine op_val (V := (· = .agg cs)) (.agg cs) hd ?_ rfl hK
  unfold execOp; rw [ho]
  show ((do let z ← Instr.loadAt ty (a.eval x); pure (Next.value z)) : Sem Next).run P w = _
  rw [hx, Sem.run_bind, run_load_at hT hn h]
  rfl
/-- A place of a slice. -/
theorem op_index (k : Nat) {t : TypeId} (e : TypeId) (hu : P.underlying t = some (.slice e)) (hie : (P.info? e).map (·.size) = some k) (x y : Operand) (ho : o.op = .indexAddr t x y) (hd : o.dst = some d) (ad : Addr) (n c : Nat) (hx : a.eval x = .slice (some ad) n c)
    (kd : IntKind) (i : Nat) (hy : a.eval y = .int kd i) (hi : i < n)
    (hK : ∀ x w', x = .pointer (some (ad.add (i * k))) → Below w.heap.size w w' → K (a.put (some d) x) w') : o.wp P a w K Q := by
  refine op_val (V := (· = .pointer (some (ad.add (i * k))))) (.pointer (some (ad.add (i * k)))) hd ?_ rfl hK
  obtain ⟨ie, h4, hsz⟩ := Option.map_eq_some_iff.1 hie
  unfold execOp; rw [ho]
  show ((do let z ← Instr.indexAt t (a.eval x) (a.eval y); pure (Next.value z)) : Sem Next).run P w = _
  rw [hx, hy]
  have h1 : (0 : Int) ≤ (i : Int) ∧ (i : Int) < (n : Int) := by omega
  have h2 : (i : Int) < (n : Int) := by omega
  have hE : P.elem t = e := by simp [Program.elem, hu]
  have hr := run_indexAt_slice (P := P) w t ad n c kd (i : Int) (by rw [hE]; exact hu)
  rw [Sem.run_bind, hr, if_pos h1, hE]
  simp [sizeOf, typeInfo, h4, hsz]
/-- The length of a slice. -/
theorem op_len (x : Operand) (t e : TypeId) (hu : P.underlying t = some (.slice e)) (ho : o.op = .call { callee := .builtin .len, args := #[x], argTypes := #[t] }) (hd : o.dst = some d) (p : Option Addr) (n c : Nat) (hx : a.eval x = .slice p n c)
    (hK : ∀ x w', x = .int .i64 n → Below w.heap.size w w' → K (a.put (some d) x) w') : o.wp P a w K Q := by
  have hl := run_len_slice (P := P) w t o.type p n c (by rw [show P.elem t = e by simp [Program.elem, hu]]; exact hu)
  refine op_val (V := (· = .int .i64 n)) (.int .i64 n) hd ?_ rfl hK
  unfold execOp
  simp only [ho, resolve, invoke, builtin, Sem.run_bind, Sem.run_pure, Result.andThen_ok, List.map_toArray, List.map_cons, List.map_nil, hx, hl]
  rfl
theorem op_ld_list {α : Type} {R : α → Value → Prop} {l : List α} (n : Nat) {ty : TypeId} (hT : RowT P ty n) (x : Operand) (ho : o.op = .load ty x) (hd : o.dst = some d) (g j : Nat) (hx : a.eval x = .pointer (some ((⟨g, 0, none⟩ : Addr).add (j * n)))) (h : Own b L w) (i N : Nat) (hi : L[i]? = some (g, N, LRow n R l))
    (u : α) (hu : l[j]? = some u) (hK : ∀ x w', R u x → Below w.heap.size w w' → K (a.put (some d) x) w') : o.wp P a w K Q := by
  obtain ⟨cs, t, h1, _, cs', e, h3⟩ := h.get hi
  injection e with e
  subst e
  obtain ⟨row, hn, hR, hr⟩ := h3.get hu
  refine op_ld_at n hT x ho hd _ hx row.toArray (by simpa using hn) (fun q v hv => ?_) (fun x w' e => hK x w' (e ▸ hR))
  have hq : q < n := by
    have := (Array.getElem?_eq_some_iff.1 hv).1
    simpa [hn] using this
  have hv' : row[q]? = some v := by simpa using hv
  have hlt : j * n + q < l.length * n := by
    have hj : j < l.length := (List.getElem?_eq_some_iff.1 hu).1
    have : (j + 1) * n ≤ l.length * n := Nat.mul_le_mul_right _ hj
    rw [Nat.add_mul] at this
    omega
  rw [add_twice, add_lit, cell_of_row w g _ cs t (0, 0) h1, ← hv', ← hr q hq, List.getElem?_take, if_pos hlt]
  simp
end
section
variable {b w : World} {L : List (Nat × Nat × (Value → Prop))}
theorem Own.swap (h : Own b L w) {i : Nat} {g n : Nat} {V : Value → Prop} (hg : b.heap.size ≤ g) (hne : ∀ r ∈ L, r.1 ≠ g) (hr : ∃ cs t, w.heap[g]? = some (.cells cs t (0, 0)) ∧ cs.size = n ∧ V (.agg cs)) : Own b (L.set i (g, n, V)) w := by
  refine ⟨h.1, ?_, fun r hr' => ?_⟩
  · rw [List.map_set]
    have hm : ∀ x ∈ L.map (·.1), x ≠ g := fun x hx => by
      obtain ⟨r, hrL, rfl⟩ := List.mem_map.1 hx
      exact hne r hrL
    have hnd := h.2.1
    generalize L.map (·.1) = M at hnd hm
    clear hr hg hne h
    induction M generalizing i with
    | nil => simp
    | cons x M ih =>
      cases i with
      | zero =>
        simp only [List.set_cons_zero]
        exact List.nodup_cons.2 ⟨fun hx => hm g (List.mem_cons_of_mem _ hx) rfl, (List.nodup_cons.1 hnd).2⟩
      | succ i =>
        simp only [List.set_cons_succ]
        refine List.nodup_cons.2 ⟨fun hx => ?_, ih (List.nodup_cons.1 hnd).2 (fun y hy => hm y (List.mem_cons_of_mem _ hy))⟩
        rcases List.mem_or_eq_of_mem_set hx with h1 | h1
        · exact (List.nodup_cons.1 hnd).1 h1
        · exact hm x (List.mem_cons_self ..) h1
  · rcases List.mem_or_eq_of_mem_set hr' with h1 | h1
    · exact h.2.2 r h1
    · subst h1
      exact ⟨hg, hr⟩
end
section
variable {P : Program} (w : World)
/-- append where there is room, whatever type the block bears. -/
theorem run_append_fits2 (t ty e e' : TypeId) (i : TypeInfo) (ht : P.underlying t = some (.slice e)) (hi : P.info? e = some i)
    (g sLen sCap : Nat) (cur : Array Value) (hg : w.heap[g]? = some (.cells cur e' (0, 0)))
    (a : Addr) (m c : Nat) (news : List Value) (hl : news.length = m * i.size) (hnews : ∀ j u, news[j]? = some u → w.cell? (a.add j) = some u) (h1 : ∀ u ∈ news, u.oneCell' = true)
    (hroom : sLen + m ≤ sCap) (hfit : sLen * i.size + news.length ≤ cur.size) :
    (Builtin.append_ #[t, t] ty #[.slice (some ⟨g, 0, none⟩) sLen sCap, .slice (some a) m c]).run P w =
      .ok (.slice (some ⟨g, 0, none⟩) (sLen + m) sCap) (w.setRow g (cur.toList.take (sLen * i.size) ++ news ++ cur.toList.drop (sLen * i.size + news.length)).toArray) := by
  have hf := run_firstCells_some (P := P) w i.size m a m c news hl hnews
  have hst := run_storeCells_at P g (sLen * i.size) e' news 0 cur w hg (by simpa using hfit) h1
  simp only [Nat.add_zero] at hst
  simp [Builtin.append_, run_underlying ht, sizeOf, typeInfo, hi, Builtin.lenOf, hroom, hf, Addr.add_lit, hst]
theorem run_append_none (t ty e : TypeId) (i : TypeInfo) (ht : P.underlying t = some (.slice e)) (hi : P.info? e = some i) (a : Addr) (n c : Nat) (hnc : n ≤ c) :
    (Builtin.append_ #[t, t] ty #[.slice (some a) n c, .slice none 0 0]).run P w = .ok (.slice (some a) n c) w := by
  simp [Builtin.append_, run_underlying ht, sizeOf, typeInfo, hi, Builtin.lenOf, Builtin.firstCells, hnc, storeCells]
end
section
variable {P : Program} {o : Oper} {w b : World} {Q : Exit → Act → World → Prop} {L : List (Nat × Nat × (Value → Prop))} {ops : Array Oper} {rest : List Oper} {df : List Deferred} {tm : Array Value}
theorem wp_append_run {K : Act → World → Prop} {a : Act} {w' : World} {v u v' : Value} (x y : Operand) (t : TypeId) (ho : o.op = .call { callee := .builtin .append, args := #[x, y], argTypes := #[t, t] }) (hx : a.eval x = v) (hy : a.eval y = u)
    (hr : (Builtin.append_ #[t, t] o.type #[v, u]).run P w = .ok v' w') (h : K (a.put o.dst v') w') : o.wp P a w K Q := by
  unfold Oper.wp execOp
  simp only [ho, resolve, invoke, builtin, Sem.run_bind, Sem.run_pure, Result.andThen_ok, List.map_toArray, List.map_cons, List.map_nil, hx, hy, hr]
  exact h
theorem wp_fn3 {K : Act → World → Prop} {a : Act} (f : FuncId) (x y z : Operand) (tys : Array TypeId) (u v s : Value)
    (ho : o.op = .call { callee := .value (.func f), args := #[x, y, z], argTypes := tys }) (hx : a.eval x = u) (hy : a.eval y = v) (hz : a.eval z = s)
    (hf : ∀ (args : Array Value) (w : World), (callFunc f args).run P w = .ok (.enter f args) w) (h : Calls P f #[u, v, s] w fun e w' => ∃ r, e = .returned r ∧ K (a.put o.dst r) w') : o.wp P a w K Q := by
  subst hx; subst hy; subst hz
  have hrun : (execOp a.eval o).run P w = .ok (.enter f #[a.eval x, a.eval y, a.eval z]) w := by
    unfold execOp
    rw [ho]
    have h0 := hf #[a.eval x, a.eval y, a.eval z] w
    have e : a.eval (Operand.func f) = Value.func (.func f) #[] #[] := rfl
    generalize a.eval = ρ at *
    simp [resolve, Deferred.ofValue, invoke, e, h0]
  unfold Oper.wp
  rw [hrun, Oper.upon_enter]
  exact h.mono fun e w' ⟨r, h1, h2⟩ => by subst h1; exact h2
/-- append of rows of the call's own to a list of the call's own: the list lies in its block or in a new one. -/
theorem tlx_append {α : Type} (k B : Nat) {t : TypeId} (e : TypeId) (x y : Operand) (hgd : o.guard = none) (ho : o.op = .call { callee := .builtin .append, args := #[x, y], argTypes := #[t, t] }) (d : Nat) (hd : o.dst = some d) (hds : d < tm.size) (hk : 0 < k)
    (hu : P.underlying t = some (.slice e)) (hie : (P.info? e).map (fun i => (i.size, i.bytes)) = some (k, B)) (hz : ((P.info? e).bind (·.zero)).map (·.cells.size) = some k)
    (R : α → Value → Prop) (l l2 : List α) (g c g2 c2 : Nat) (hx : Act.eval ⟨tm, df⟩ x = .slice (some ⟨g, 0, none⟩) l.length c) (hy : Act.eval ⟨tm, df⟩ y = .slice (some ⟨g2, 0, none⟩) l2.length c2)
    (hc : l.length ≤ c ∧ c ≤ maxLen) (h : Own b L w) (i j N2 : Nat) (hi : L[i]? = some (g, c * k, LRow k R l)) (hj : L[j]? = some (g2, N2, LRow k R l2)) (hone : ∀ u v, R u v → ∃ cs, v = .agg cs ∧ cs.all (·.oneCell') = true)
    (hroom : (l.length + l2.length) * B ≤ 140737488355328) (h63 : l.length + l2.length ≤ maxLen)
    (hK : ∀ g' c' t' w', Own b (L.set i (g', c' * k, LRow k R (l ++ l2))) w' → (l ++ l2).length ≤ c' ∧ c' ≤ maxLen → t' = tm.setIfInBounds d (.slice (some ⟨g', 0, none⟩) (l ++ l2).length c') → t'.size = tm.size → t'[d]? = some (.slice (some ⟨g', 0, none⟩) (l ++ l2).length c') → (∀ j, j ≠ d → t'[j]? = tm[j]?) → wpList P ops Q rest ⟨t', df⟩ w') : wpList P ops Q (o :: rest) ⟨tm, df⟩ w := by
  obtain ⟨ie, h4, hp⟩ := Option.map_eq_some_iff.1 hie
  obtain ⟨hsz, hby⟩ := Prod.mk.inj hp
  rw [h4, Option.bind_some] at hz
  obtain ⟨z, h5, hzs⟩ := Option.map_eq_some_iff.1 hz
  subst hsz; subst hby
  obtain ⟨cur, te, a1, a2, cs1, e1, a3⟩ := h.get hi
  injection e1 with e1
  subst e1
  obtain ⟨src, ts, b1, b2, cs2, e2, b3⟩ := h.get hj
  injection e2 with e2
  subst e2
  have hl1 := a3.len
  have hl2 := b3.len
  have hnews : ∀ q u, (src.toList.take (l2.length * ie.size))[q]? = some u → w.cell? ((⟨g2, 0, none⟩ : Addr).add q) = some u := fun q u hq => by
    rw [add_lit, cell_of_row w g2 q src ts (0, 0) b1]
    rw [List.getElem?_take] at hq
    split at hq
    · simpa using hq
    · cases hq
  have holds : ∀ q u, (cur.toList.take (l.length * ie.size))[q]? = some u → w.cell? ((⟨g, 0, none⟩ : Addr).add q) = some u := fun q u hq => by
    rw [add_lit, cell_of_row w g q cur te (0, 0) a1]
    rw [List.getElem?_take] at hq
    split at hq
    · simpa using hq
    · cases hq
  have hrow : RowsOf ie.size R (cur.toList.take (l.length * ie.size) ++ src.toList.take (l2.length * ie.size)) (l ++ l2) := RowsOf.append b3 a3
  have hlen : (l ++ l2).length = l.length + l2.length := List.length_append
  refine wpList_step fun K hKK => if_always hgd ?_
  by_cases hfit : l.length + l2.length ≤ c
  · have hr := run_append_fits2 (P := P) w t o.type e te ie hu h4 g l.length c cur a1 ⟨g2, 0, none⟩ l2.length c2 (src.toList.take (l2.length * ie.size)) hl2 hnews (b3.one_cells hone) hfit (by rw [hl2, a2, ← Nat.add_mul]; exact Nat.mul_le_mul_right _ hfit)
    refine wp_append_run x y t ho hx hy hr (hKK _ _ ?_)
    rw [hd, ← hlen]
    refine hK g c (tm.setIfInBounds d _) _ ?_ ⟨by omega, hc.2⟩ rfl (by simp) (by simp [hds]) (fun j hj => by rw [Array.getElem?_setIfInBounds, if_neg (fun e => hj e.symm)])
    have hs : (cur.toList.take (l.length * ie.size) ++ src.toList.take (l2.length * ie.size) ++ cur.toList.drop (l.length * ie.size + (src.toList.take (l2.length * ie.size)).length)).toArray.size = c * ie.size := by
      have hm : (l.length + l2.length) * ie.size ≤ c * ie.size := Nat.mul_le_mul_right _ hfit
      rw [Nat.add_mul] at hm
      have e0 : cur.toList.length = c * ie.size := by rw [Array.length_toList, a2]
      rw [List.size_toArray, List.length_append, List.length_append, List.length_drop, e0, hl1, hl2]
      omega
    refine h.put hi _ hs ⟨_, rfl, ?_⟩
    rw [hlen, Nat.add_mul, List.take_append_of_le_length (by rw [List.length_append, hl1, hl2]; exact Nat.le_refl _), List.take_of_length_le (by rw [List.length_append, hl1, hl2]; exact Nat.le_refl _)]
    exact hrow
  · have hr := run_append_grow (P := P) w t o.type e ie z hu h4 h5 ⟨g, 0, none⟩ l.length c (cur.toList.take (l.length * ie.size)) hl1 holds ⟨g2, 0, none⟩ l2.length c2 (src.toList.take (l2.length * ie.size)) hl2 hnews (by omega) (by simp only [maxLen] at h63; omega) (growslice_fits (by omega) hroom)
    refine wp_append_run x y t ho hx hy hr (hKK _ _ ?_)
    have hge := grownCap_ge w (l.length + l2.length) c e
    have hcm := grownCap_le_maxLen w (l.length + l2.length) c e h63
    rw [hd, ← hlen]
    rw [← hlen] at hge hcm
    refine hK w.heap.size (grownCap w (l ++ l2).length c e) (tm.setIfInBounds d _) _ ?_ ⟨hge, hcm⟩ rfl (by simp) (by simp [hds]) (fun j hj => by rw [Array.getElem?_setIfInBounds, if_neg (fun e => hj e.symm)])
    have hk' := (h.drew).keep ((Below.refl _ _).alloc (Nat.le_refl _) (.cells ((cur.toList.take (l.length * ie.size)).toArray ++ (src.toList.take (l2.length * ie.size)).toArray ++ Builtin.zeroCells z.cells (grownCap w (l ++ l2).length c e - (l ++ l2).length)) e))
    refine hk'.swap h.1.size (fun r hr => Nat.ne_of_lt (h.lt r hr)) ⟨_, e, heap_alloc_new w.drew _, ?_, _, rfl, ?_⟩
    · rw [Array.size_append, Array.size_append, List.size_toArray, List.size_toArray, hl1, hl2, size_zeroCells, hzs, ← Nat.add_mul, ← Nat.add_mul]
      congr 1
      omega
    · have e0 : (cur.toList.take (l.length * ie.size) ++ src.toList.take (l2.length * ie.size)).length = (l ++ l2).length * ie.size := by rw [List.length_append, hl1, hl2, hlen, Nat.add_mul]
      simp only [Array.toList_append]
      rw [List.take_append_of_le_length (Nat.le_of_eq e0.symm), List.take_of_length_le (Nat.le_of_eq e0)]
      exact hrow
/-- append of nothing. -/
theorem tlx_append_nil (k : Nat) {t : TypeId} (e : TypeId) (x y : Operand) (hgd : o.guard = none) (ho : o.op = .call { callee := .builtin .append, args := #[x, y], argTypes := #[t, t] }) (d : Nat) (hd : o.dst = some d) (hds : d < tm.size)
    (hu : P.underlying t = some (.slice e)) (hie : (P.info? e).map (·.size) = some k) (ad : Addr) (n c : Nat) (hx : Act.eval ⟨tm, df⟩ x = .slice (some ad) n c) (hy : Act.eval ⟨tm, df⟩ y = .slice none 0 0) (hc : n ≤ c)
    (hK : ∀ t', t' = tm.setIfInBounds d (.slice (some ad) n c) → t'.size = tm.size → t'[d]? = some (.slice (some ad) n c) → (∀ j, j ≠ d → t'[j]? = tm[j]?) → wpList P ops Q rest ⟨t', df⟩ w) : wpList P ops Q (o :: rest) ⟨tm, df⟩ w := by
  obtain ⟨ie, h4, _⟩ := Option.map_eq_some_iff.1 hie
  refine wpList_step fun K hKK => if_always hgd ?_
  refine wp_append_run x y t ho hx hy (run_append_none w t o.type e ie hu h4 ad n c hc) (hKK _ _ ?_)
  rw [hd]
  exact hK _ rfl (by simp) (by simp [hds]) (fun j hj => by rw [Array.getElem?_setIfInBounds, if_neg (fun e => hj e.symm)])
/-- A slot's value moved to another. -/
theorem tlx_assign (x : Operand) (hgd : o.guard = none) (ho : o.op = .assign x) (d : Nat) (hd : o.dst = some d) (hds : d < tm.size) (u : Value) (hx : Act.eval ⟨tm, df⟩ x = u)
    (h : ∀ t', t' = tm.setIfInBounds d u → t'.size = tm.size → t'[d]? = some u → (∀ k, k ≠ d → t'[k]? = tm[k]?) → wpList P ops Q rest ⟨t', df⟩ w) : wpList P ops Q (o :: rest) ⟨tm, df⟩ w := by
  refine wpList_step fun K hK => if_always hgd ?_
  refine wp_val u (by unfold execOp; rw [ho]; subst hx; rfl) (hK _ _ ?_)
  rw [hd]
  exact h (tm.setIfInBounds d u) rfl (by simp) (by simp [hds]) (fun k hk => by rw [Array.getElem?_setIfInBounds, if_neg (fun e => hk e.symm)])
/-- A literal of one row: the world's row is that of the list of one. -/
theorem tlx_lit1 {α : Type} (R : α → Value → Prop) (u : α) (k : Nat) {t : TypeId} (e : TypeId) (x : Operand) (hgd : o.guard = none) (ho : o.op = .buildSlice t 1 #[(0, x)]) (d : Nat) (hd : o.dst = some d) (hds : d < tm.size) (hk : 0 < k ∧ k ≤ 16777216)
    (hu : P.underlying t = some (.slice e)) (hie : (P.info? e).map (·.size) = some k) (hz : ((P.info? e).bind (·.zero)).isSome = true) (v : Value) (hx : Act.eval ⟨tm, df⟩ x = v) (hv : R u v) (hvc : ∀ v, R u v → ∃ cs, v = .agg cs ∧ cs.size = k ∧ cs.all (·.oneCell') = true) (h : Own b L w)
    (hK : ∀ g t' w', Own b (L ++ [(g, 1 * k, LRow k R [u])]) w' → t' = tm.setIfInBounds d (.slice (some ⟨g, 0, none⟩) 1 1) → t'.size = tm.size → t'[d]? = some (.slice (some ⟨g, 0, none⟩) 1 1) → (∀ j, j ≠ d → t'[j]? = tm[j]?) → wpList P ops Q rest ⟨t', df⟩ w') : wpList P ops Q (o :: rest) ⟨tm, df⟩ w := by
  obtain ⟨cs, rfl, h2, h3⟩ := hvc v hv
  obtain ⟨ie, h4, hsz⟩ := Option.map_eq_some_iff.1 hie
  rw [h4, Option.bind_some] at hz
  obtain ⟨z, h5⟩ := Option.isSome_iff_exists.1 hz
  refine wpList_step fun K hKK => if_always hgd ?_
  refine op_lit1 t e x ho hd ie z k hk hu h4 h5 hsz cs hx h2 (hKK _ _ ?_)
  refine hK w.heap.size (tm.setIfInBounds d _) _ ?_ rfl (by simp) (by simp [hds]) (fun j hj => by rw [Array.getElem?_setIfInBounds, if_neg (fun e => hj e.symm)])
  refine (h.keep ((Below.refl _ _).alloc (Nat.le_refl _) _)).add (h.1.size) (fun r hr => Nat.ne_of_lt (h.lt r hr)) ⟨cs, e, heap_alloc_new w _, by omega, cs, rfl, ?_⟩
  rw [List.take_of_length_le (by simp [h2])]
  exact RowsOf.one (by simpa using h2) (by simpa using hv)
/-- A call that hands back a slice of rows of its own (not none). -/
theorem tlx_fresh3 {α : Type} {R : α → Value → Prop} {l : List α} {k : Nat} (hl : l ≠ []) (f : FuncId) (x y z : Operand) {tys : Array TypeId} (u v s : Value) (hgd : o.guard = none) (ho : o.op = .call { callee := .value (.func f), args := #[x, y, z], argTypes := tys }) (d : Nat) (hd : o.dst = some d) (hds : d < tm.size)
    (hx : Act.eval ⟨tm, df⟩ x = u) (hy : Act.eval ⟨tm, df⟩ y = v) (hz : Act.eval ⟨tm, df⟩ z = s) (hf : ∀ (args : Array Value) (w : World), (callFunc f args).run P w = .ok (.enter f args) w) (hcall : Calls P f #[u, v, s] w (Fresh k R l w)) (h : Own b L w)
    (hK : ∀ g t' w', Own b (L ++ [(g, l.length * k, LRow k R l)]) w' → t' = tm.setIfInBounds d (.slice (some ⟨g, 0, none⟩) l.length l.length) → t'.size = tm.size → t'[d]? = some (.slice (some ⟨g, 0, none⟩) l.length l.length) → (∀ j, j ≠ d → t'[j]? = tm[j]?) → wpList P ops Q rest ⟨t', df⟩ w') : wpList P ops Q (o :: rest) ⟨tm, df⟩ w := by
  refine wpList_step fun K hKK => if_always hgd ?_
  refine wp_fn3 f x y z tys u v s ho hx hy hz hf (hcall.mono fun e w' ⟨hb, hr⟩ => ?_)
  rcases hr with ⟨h1, _⟩ | ⟨_, g, cs, ty, rfl, h2, h3, h4⟩
  · exact absurd h1 hl
  · refine ⟨_, rfl, hKK _ _ ?_⟩
    rw [hd]
    have hk' := h.keep hb
    have hlen : cs.size = l.length * k := by rw [← Array.length_toList]; exact h4.len
    refine hK g (tm.setIfInBounds d _) w' ?_ rfl (by simp) (by simp [hds]) (fun j hj => by rw [Array.getElem?_setIfInBounds, if_neg (fun e => hj e.symm)])
    refine hk'.add (Nat.le_trans h.1.size h2) (fun r hr => Nat.ne_of_lt (Nat.lt_of_lt_of_le (h.lt r hr) h2)) ⟨cs, ty, h3, hlen, cs, rfl, ?_⟩
    rw [List.take_of_length_le (by rw [Array.length_toList, hlen]; exact Nat.le_refl _)]
    exact h4
theorem wp_fn3_nil {α : Type} {R : α → Value → Prop} {l : List α} {k : Nat} {f : FuncId} {args : Array Value} (hl : l = []) (h : Calls P f args w (Fresh k R l w)) : Calls P f args w (Gives (· = .slice none 0 0) w) :=
  h.mono fun e w' ⟨hb, hr⟩ => by
    rcases hr with ⟨_, rfl⟩ | ⟨h1, _⟩
    · exact ⟨_, rfl, rfl, hb⟩
    · exact absurd hl h1
end
end Go.Proofs.YtemkpihfenokmaaDoor
