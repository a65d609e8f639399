/- Bytes that lie in memory behind a slice. Said over any program. -/
import Derived.Test.YtemkpihfenokmaaDoorGSl
import Derived.Test.YtemkpihfenokmaaDoorDig
import Derived.Laws.MakeOwn
namespace Go.Proofs.YtemkpihfenokmaaDoor
open Go.RowKit

/-- The bytes l lie where the slice's address says. -/
def BytesIn (w : World) (p : Option Addr) (l : List Int) : Prop := ∀ i, i < l.length → ∃ a, p = some a ∧ a.block < w.heap.size ∧ w.cell? (a.add i) = some (.int .u8 (nth l i))
theorem BytesIn.under {w w' : World} {p : Option Addr} {l : List Int} {B : Nat} (h : BytesIn w p l) (hb : Below B w w') (hB : w.heap.size ≤ B) : BytesIn w' p l := fun i hi => by
  obtain ⟨a, h1, h2, h3⟩ := h i hi
  refine ⟨a, h1, Nat.lt_of_lt_of_le h2 hb.size, ?_⟩
  rw [← h3]
  exact World.cell?_of_block (by rw [add_block]; exact hb.block _ (Nat.lt_of_lt_of_le h2 hB))
theorem BytesIn.keep {w w' : World} {p : Option Addr} {l : List Int} (h : BytesIn w p l) (hb : Below w.heap.size w w') : BytesIn w' p l := h.under hb (Nat.le_refl _)
theorem BytesIn.row {w : World} {g : Nat} {cs : Array Value} {t : TypeId} {l : List Int} (o : Nat) (h : w.heap[g]? = some (.cells cs t (0, 0))) (hl : (cs.toList.drop o).take l.length = l.map (Value.int .u8)) : BytesIn w (some ⟨g, o, none⟩) l := fun i hi => by
  refine ⟨_, rfl, row_lt h, ?_⟩
  have e : (⟨g, o, none⟩ : Addr).add i = ⟨g, o + i, none⟩ := by unfold Addr.add; split <;> simp_all
  have h1 : ((cs.toList.drop o).take l.length)[i]? = some (.int .u8 (nth l i)) := by
    rw [hl, List.getElem?_map, List.getElem?_eq_getElem hi]
    simp [nth, List.getD, List.getElem?_eq_getElem hi]
  rw [List.getElem?_take, if_pos hi, List.getElem?_drop] at h1
  rw [e, cell_of_row w g _ cs t (0, 0) h]
  simpa using h1
theorem BytesIn.vals {w : World} {g : Nat} {t : TypeId} {L l : List Int} (o : Nat) (h : w.heap[g]? = some (.cells (vals L) t (0, 0))) (hl : (L.drop o).take l.length = l) : BytesIn w (some ⟨g, o, none⟩) l :=
  .row o h (by
    show ((L.map (Value.int .u8)).drop o).take l.length = _
    rw [← List.map_drop, ← List.map_take, hl])
theorem take_eq_step {a b : List Int} {k : Nat} (h : a.take k = b.take k) (ha : k < a.length) (hb : k < b.length) (e : nth a k = nth b k) : a.take (k + 1) = b.take (k + 1) := by
  rw [take_nth a k ha, take_nth b k hb, h, e]
theorem nth_ne {a b : List Int} {k : Nat} (e : nth a k ≠ nth b k) : a ≠ b := fun h => e (by rw [h])
theorem made_zero (n : Nat) : madeCells #[.int .u8 0] n = vals (List.replicate n 0) := by
  apply Array.ext_getElem?
  intro j
  by_cases hj : j < n
  · simp [madeCells, vals, hj, Nat.mod_one]
  · simp [madeCells, vals, hj]
/-- What a call hands back: bytes of its own, the block's whole contents known. -/
def NewBytes (w : World) (L : List Int) (n : Nat) (e : Ending) (w' : World) : Prop := Below w.heap.size w w' ∧ ∃ g t, e = .returned (.slice (some ⟨g, 0, none⟩) n L.length) ∧ w.heap.size ≤ g ∧ w'.heap[g]? = some (.cells (vals L) t (0, 0))
/-- .. the bytes alone known. -/
def NewB (w : World) (l : List Int) (e : Ending) (w' : World) : Prop := Below w.heap.size w w' ∧ ∃ g c cs t, e = .returned (.slice (some ⟨g, 0, none⟩) l.length c) ∧ w.heap.size ≤ g ∧ w'.heap[g]? = some (.cells cs t (0, 0)) ∧ cs.size = c ∧ cs.toList.take l.length = l.map (Value.int .u8)
def mrk (k : Nat) : Int := IntKind.u8.wrap (bits .xor .i64 165 (k : Int))
def spareL (l : List Int) : List Int := l ++ (List.range 80).map fun j => mrk (l.length + j)
theorem spareL_len (l : List Int) : (spareL l).length = l.length + 80 := by simp [spareL]
theorem spareL_lo (l : List Int) (k : Nat) (h : k < l.length) : nth (spareL l) k = nth l k := by
  simp only [nth, spareL, List.getD_eq_getElem?_getD]
  rw [List.getElem?_append_left h]
theorem spareL_hi (l : List Int) (k : Nat) (h : l.length ≤ k) (h2 : k < l.length + 80) : nth (spareL l) k = mrk k := by
  simp only [nth, spareL, List.getD_eq_getElem?_getD]
  rw [List.getElem?_append_right h, List.getElem?_map, List.getElem?_range (by omega)]
  simp only [Option.map_some, Option.getD_some]
  congr 1
  omega
theorem spareL_take (l : List Int) : (spareL l).take l.length = l := by simp [spareL]
/-- A byte as a row of one cell. -/
def IsB (u : Int) (v : Value) : Prop := v = .agg #[.int .u8 u]
theorem IsB.one {u : Int} {v : Value} (h : IsB u v) : ∃ cs, v = .agg cs ∧ cs.all (·.oneCell') = true := ⟨_, h, by simp [Value.oneCell']⟩
theorem bytes_of_rows : ∀ {l : List Int} {xs : List Value}, RowsOf 1 IsB xs l → xs = l.map (Value.int .u8)
  | [], xs, h => h
  | u :: l, xs, ⟨cs, ys, e, _, hR, h⟩ => by
    have h1 : Value.agg cs.toArray = .agg #[.int .u8 u] := hR
    injection h1 with h1
    have h2 : cs = [.int .u8 u] := by
      have := congrArg Array.toList h1
      simpa using this
    rw [e, h2, bytes_of_rows h]
    rfl
section
variable {P : Program} {o : Oper} {w b : World} {Q : Exit → Act → World → Prop} {L : List (Nat × Nat × (Value → Prop))} {ops : Array Oper} {rest : List Oper} {df : List Deferred} {tm : Array Value}
/-- A literal of one byte. -/
theorem tlx_litb (u : Int) {t : TypeId} (e : TypeId) (x : Operand) (hgd : o.guard = none) (ho : o.op = .buildSlice t 1 #[(0, x)]) (d : Nat) (hd : o.dst = some d) (hds : d < tm.size)
    (hu : P.underlying t = some (.slice e)) (hie : (P.info? e).map (·.size) = some 1) (hz : ((P.info? e).bind (·.zero)).isSome = true) (hx : Act.eval ⟨tm, df⟩ x = .int .u8 u) (h : Own b L w)
    (hK : ∀ g t' w', Own b (L ++ [(g, 1 * 1, LRow 1 IsB [u])]) w' → t' = tm.setIfInBounds d (.slice (some ⟨g, 0, none⟩) 1 1) → t'.size = tm.size → t'[d]? = some (.slice (some ⟨g, 0, none⟩) 1 1) → (∀ j, j ≠ d → t'[j]? = tm[j]?) → wpList P ops Q rest ⟨t', df⟩ w') : wpList P ops Q (o :: rest) ⟨tm, df⟩ w := by
  obtain ⟨ie, h4, hsz⟩ := Option.map_eq_some_iff.1 hie
  rw [h4, Option.bind_some] at hz
  obtain ⟨z, h5⟩ := Option.isSome_iff_exists.1 hz
  refine wpList_step fun K hKK => if_always hgd ?_
  refine Go.wp_buildSlice t e 1 #[(0, x)] ho #[.int .u8 u] ie z hu h4 h5 (by rw [hsz]; decide) (by rw [hsz]; decide) ?_ (hKK _ _ ?_)
  · have hf := Great.fill_whole (s := ie.size) (by rw [hsz]; decide) [.int .u8 u] ((Array.range (1 * ie.size)).map (z.cells[· % z.cells.size]!)) (by intro v hv; obtain rfl := List.mem_singleton.1 hv; rw [hsz]; rfl) (by simp)
    have hc : (Value.int .u8 u).cells = #[.int .u8 u] := rfl
    simpa [hx, hc] using hf
  · rw [hd]
    refine hK w.heap.size (tm.setIfInBounds d _) _ ?_ rfl (by simp) (by simp [hds]) (fun j hj => by rw [Array.getElem?_setIfInBounds, if_neg (fun e => hj e.symm)])
    exact (h.keep ((Below.refl _ _).alloc (Nat.le_refl _) _)).add (h.1.size) (fun r hr => Nat.ne_of_lt (h.lt r hr)) ⟨_, e, heap_alloc_new w _, rfl, _, rfl, RowsOf.one rfl rfl⟩
theorem held_build1 {P : Program} {ops : Array Oper} {rest : List Oper} {o : Oper} {Q : Exit → Act → World → Prop} {a : Act} {w : World} (t : TypeId) (n : Nat) (ps : Array (Nat × Operand)) (_ : o.op = .buildSlice t n ps) (h : Held (wpList P ops Q (o :: rest) a w)) : wpList P ops Q (o :: rest) a w := h
end
theorem row_under {b w : World} {g : Nat} {cs : Array Value} {t : TypeId} (hb : Below b.heap.size b w) (h : b.heap[g]? = some (.cells cs t (0, 0))) : w.heap[g]? = some (.cells cs t (0, 0)) := row_call hb h
end Go.Proofs.YtemkpihfenokmaaDoor
