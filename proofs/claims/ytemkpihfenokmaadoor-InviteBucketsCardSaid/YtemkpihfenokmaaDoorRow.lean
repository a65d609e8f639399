/- Whole rows of cells: read, written, handed back, by value; said over any program. No condition. -/
import Derived.WalkKit
import Derived.WalkSpells
import Derived.WalkLawsBesides
import Derived.RegionTactic
import Derived.BigRegion
import Derived.ChangeAlike
import Derived.Handy
import Derived.StillTailTactics
import Derived.Lib.Hide
import Derived.Laws.CopyOwn
import Derived.Deep.WholeRow
namespace Go.Proofs.YtemkpihfenokmaaDoor
open Go.RowKit
variable {P : Program}

/-- A row of n cells by value. -/
def RowT (P : Program) (ty : TypeId) (n : Nat) : Prop :=
  ∃ d, P.underlying ty = some d ∧ (match d with | .struct _ | .array _ _ => true | _ => false) = true ∧ (P.info? ty).map (·.size) = some n

/-- The goal is a list of operations (asked ahead of a law on lists, so that nothing is unfolded where it is none). -/
theorem guard_list {l : List Oper} {ops' : Array Oper} {a : Act} {w : World} {Q : Exit → Act → World → Prop} (h : wpList P ops' Q l a w) : wpList P ops' Q l a w := h

theorem ld_row {ops : Array Oper} {rest : List Oper} {o : Oper} {a : Act} {w : World} {Q : Exit → Act → World → Prop} (hgd : o.guard = none) (ty : TypeId) (x : Operand) (ho : o.op = .load ty x)
    (g : Nat) (hx : a.eval x = .pointer (some ⟨g, 0, none⟩)) (cs : Array Value) (t : TypeId) (hg : w.heap[g]? = some (.cells cs t (0, 0))) (n : Nat) (hT : RowT P ty n) (hn : cs.size = n)
    (h : wpList P ops Q rest (a.put o.dst (.agg cs)) w) : wpList P ops Q (o :: rest) a w := by
  obtain ⟨d, h1, h2, h3⟩ := hT
  subst hn
  exact wpList_load_row hgd ty x ho g hx t cs (0, 0) d hg h1 (by cases d <;> simp_all) h3 h

theorem st_row {ops : Array Oper} {rest : List Oper} {o : Oper} {a : Act} {w : World} {Q : Exit → Act → World → Prop} (hgd : o.guard = none) (ty : TypeId) (x y : Operand) (ho : o.op = .store ty x y)
    (g : Nat) (cs : Array Value) (hx : a.eval x = .pointer (some ⟨g, 0, none⟩)) (hy : a.eval y = .agg cs) (t : TypeId) (old : Array Value) (hg : w.heap[g]? = some (.cells old t (0, 0)))
    (n : Nat) (hT : RowT P ty n) (hn : cs.size = n) (ho' : old.size = n) (h1 : cs.all (·.oneCell') = true)
    (h : wpList P ops Q rest (a.put o.dst undef) (w.setRow g cs)) : wpList P ops Q (o :: rest) a w := by
  obtain ⟨d, _, _, h3⟩ := hT
  subst hn
  exact wpList_store_row hgd ty x y ho g cs hx hy t old hg h3 ho' h1 h

/-- A whole value into the block that was made last. -/
theorem st_new {ops : Array Oper} {rest : List Oper} {o : Oper} {a : Act} {w : World} {Q : Exit → Act → World → Prop} (hgd : o.guard = none) (ty : TypeId) (x y : Operand) (ho : o.op = .store ty x y)
    (cs : Array Value) (t : TypeId) (old : Array Value) (hx : a.eval x = .pointer (some ⟨w.heap.size, 0, none⟩)) (hy : a.eval y = .agg cs)
    (n : Nat) (hT : RowT P ty n) (hn : cs.size = n) (ho' : old.size = n) (h1 : cs.all (·.oneCell') = true)
    (h : wpList P ops Q rest (a.put o.dst undef) (w.alloc (.cells cs t))) : wpList P ops Q (o :: rest) a (w.alloc (.cells old t)) := by
  refine st_row hgd ty x y ho w.heap.size cs hx hy t old (heap_alloc_last w _) n hT hn ho' h1 ?_
  rw [World.setRow_alloc_new]
  exact h

theorem ret_row {fn : Func} {R : Ending → World → Prop} {a : Act} {w : World} {p : Tmp} {ty : TypeId} (h : fn.results = #[.cell p ty]) (g : Nat) (cs : Array Value) (t : TypeId)
    (hp : a.tmps.getD p undef = .pointer (some ⟨g, 0, none⟩)) (hg : w.heap[g]? = some (.cells cs t (0, 0))) (n : Nat) (hT : RowT P ty n) (hn : cs.size = n) (hd : a.defers = [])
    (hR : R (.returned (.agg cs)) w) : bodyPost P fn R .ret a w := by
  obtain ⟨d, h1, h2, h3⟩ := hT
  subst hn
  exact bodyPost_ret (results_cell_row h a.tmps w g t cs (0, 0) d hp hg h1 (by cases d <;> simp_all) h3) hd hR

/-- A row and a temporary handed back. -/
theorem ret_row_tmp {fn : Func} {R : Ending → World → Prop} {a : Act} {w : World} {p u : Tmp} {ty : TypeId} (h : fn.results = #[.cell p ty, .tmp u]) (g : Nat) (cs : Array Value) (t : TypeId)
    (hp : a.tmps.getD p undef = .pointer (some ⟨g, 0, none⟩)) (hg : w.heap[g]? = some (.cells cs t (0, 0))) (n : Nat) (hT : RowT P ty n) (hn : cs.size = n) (hd : a.defers = [])
    (hR : R (.returned (.tuple #[.agg cs, a.tmps.getD u undef])) w) : bodyPost P fn R .ret a w := by
  obtain ⟨d, h1, h2, h3⟩ := hT
  subst hn
  refine bodyPost_ret (v := .tuple #[.agg cs, a.tmps.getD u undef]) ?_ hd hR
  have hl := run_loadVar_row (P := P) w g t ty cs (0, 0) d hg h1 (by cases d <;> simp_all) h3
  rw [results_cell_tmp h a.tmps P w, hp]
  simp [asAddr, hl]

theorem row_cell {w : World} {g : Nat} {cs : Array Value} {t : TypeId} (h : w.heap[g]? = some (.cells cs t (0, 0))) (j : Nat) : w.cell? ⟨g, j, none⟩ = cs[j]? := cell_of_row w g j cs t _ h
theorem row_free {w : World} {g : Nat} {cs : Array Value} {t : TypeId} (h : w.heap[g]? = some (.cells cs t (0, 0))) (j : Nat) : w.frozen? ⟨g, j, none⟩ = false := frozen_of_row w g j cs t h
theorem row_lt {w : World} {g : Nat} {cs : Array Value} {t : TypeId} (h : w.heap[g]? = some (.cells cs t (0, 0))) : g < w.heap.size := by
  rcases Nat.lt_or_ge g w.heap.size with h1 | h1
  · exact h1
  · rw [Array.getElem?_eq_none h1] at h; cases h

/-- What lay below the callee's blocks lies there still. -/
theorem row_keep {W w1 : World} {g : Nat} {o : Obj} (hb : Below W.heap.size W w1) (h : W.heap[g]? = some o) (hg : g < W.heap.size) : w1.heap[g]? = some o := (hb.block g hg).trans h

theorem bcell {W w1 : World} (hb : Below W.heap.size W w1) : (∀ b o, b < W.heap.size → w1.cell? ⟨b, o, none⟩ = W.cell? ⟨b, o, none⟩) ∧ (∀ b o, b < W.heap.size → w1.frozen? ⟨b, o, none⟩ = W.frozen? ⟨b, o, none⟩) :=
  ⟨fun b o h => hb.cell (p := ⟨b, o, none⟩) h, fun b o h => hb.frozen (p := ⟨b, o, none⟩) h⟩

/-- An old block behind a new one. -/
theorem row_alloc {w : World} {g : Nat} {o x : Obj} (h : w.heap[g]? = some o) : (w.alloc x).heap[g]? = some o := by
  have hlt : g < w.heap.size := by
    rcases Nat.lt_or_ge g w.heap.size with h1 | h1
    · exact h1
    · rw [Array.getElem?_eq_none h1] at h; cases h
  show (w.heap.push x)[g]? = some o
  rw [Array.getElem?_push, if_neg (Nat.ne_of_lt hlt)]; exact h
theorem row_new {w : World} {x : Obj} : (w.alloc x).heap[w.heap.size]? = some x := by
  show (w.heap.push x)[w.heap.size]? = some x
  simp
theorem row_set {w : World} {g i : Nat} {cs : Array Value} {t : TypeId} {v : Value} (h : w.heap[g]? = some (.cells cs t (0, 0))) : (w.setCell ⟨g, i, none⟩ v).heap[g]? = some (.cells (cs.setIfInBounds i v) t (0, 0)) :=
  heap_setCell_same w g i cs t v h
theorem row_set_other {w : World} {g i k : Nat} {o : Obj} {v : Value} (h : w.heap[k]? = some o) (hne : k ≠ g) : (w.setCell ⟨g, i, none⟩ v).heap[k]? = some o :=
  (heap_setCell_other w ⟨g, i, none⟩ k v hne).trans h
theorem row_put {w : World} {g : Nat} {cs cs' : Array Value} {t : TypeId} (h : w.heap[g]? = some (.cells cs t (0, 0))) : (w.setRow g cs').heap[g]? = some (.cells cs' t (0, 0)) := setRow_heap w g cs cs' t _ h
theorem row_put_other {w : World} {g k : Nat} {cs : Array Value} {o : Obj} (h : w.heap[k]? = some o) (hne : k ≠ g) : (w.setRow g cs).heap[k]? = some o := (setRow_other w g k cs hne).trans h
/-! ### New blocks, by their place -/
theorem row_at {w : World} {x : Obj} {i : Nat} (h : i = w.heap.size) : (w.alloc x).heap[i]? = some x := by subst h; exact row_new
theorem new2_0 (w : World) (A B : Obj) : ((w.alloc A).alloc B).heap[w.heap.size]? = some A := row_alloc (row_new)
theorem new2_1 (w : World) (A B : Obj) : ((w.alloc A).alloc B).heap[w.heap.size + 1]? = some B := row_at (by simp)
theorem new3_0 (w : World) (A B C : Obj) : (((w.alloc A).alloc B).alloc C).heap[w.heap.size]? = some A := row_alloc (row_alloc (row_new))
theorem new3_1 (w : World) (A B C : Obj) : (((w.alloc A).alloc B).alloc C).heap[w.heap.size + 1]? = some B := row_alloc (row_at (by simp))
theorem new3_2 (w : World) (A B C : Obj) : (((w.alloc A).alloc B).alloc C).heap[w.heap.size + 2]? = some C := row_at (by simp)
theorem new4_0 (w : World) (A B C D : Obj) : ((((w.alloc A).alloc B).alloc C).alloc D).heap[w.heap.size]? = some A := row_alloc (row_alloc (row_alloc (row_new)))
theorem new4_1 (w : World) (A B C D : Obj) : ((((w.alloc A).alloc B).alloc C).alloc D).heap[w.heap.size + 1]? = some B := row_alloc (row_alloc (row_at (by simp)))
theorem new4_2 (w : World) (A B C D : Obj) : ((((w.alloc A).alloc B).alloc C).alloc D).heap[w.heap.size + 2]? = some C := row_alloc (row_at (by simp))
theorem new4_3 (w : World) (A B C D : Obj) : ((((w.alloc A).alloc B).alloc C).alloc D).heap[w.heap.size + 3]? = some D := row_at (by simp)
theorem new5_0 (w : World) (A B C D E : Obj) : (((((w.alloc A).alloc B).alloc C).alloc D).alloc E).heap[w.heap.size]? = some A := row_alloc (row_alloc (row_alloc (row_alloc (row_new))))
theorem new5_1 (w : World) (A B C D E : Obj) : (((((w.alloc A).alloc B).alloc C).alloc D).alloc E).heap[w.heap.size + 1]? = some B := row_alloc (row_alloc (row_alloc (row_at (by simp))))
theorem new5_2 (w : World) (A B C D E : Obj) : (((((w.alloc A).alloc B).alloc C).alloc D).alloc E).heap[w.heap.size + 2]? = some C := row_alloc (row_alloc (row_at (by simp)))
theorem new5_3 (w : World) (A B C D E : Obj) : (((((w.alloc A).alloc B).alloc C).alloc D).alloc E).heap[w.heap.size + 3]? = some D := row_alloc (row_at (by simp))
theorem new5_4 (w : World) (A B C D E : Obj) : (((((w.alloc A).alloc B).alloc C).alloc D).alloc E).heap[w.heap.size + 4]? = some E := row_at (by simp)
theorem new6_0 (w : World) (A B C D E G : Obj) : ((((((w.alloc A).alloc B).alloc C).alloc D).alloc E).alloc G).heap[w.heap.size]? = some A := row_alloc (row_alloc (row_alloc (row_alloc (row_alloc (row_new)))))
theorem new6_1 (w : World) (A B C D E G : Obj) : ((((((w.alloc A).alloc B).alloc C).alloc D).alloc E).alloc G).heap[w.heap.size + 1]? = some B := row_alloc (row_alloc (row_alloc (row_alloc (row_at (by simp)))))
theorem new6_2 (w : World) (A B C D E G : Obj) : ((((((w.alloc A).alloc B).alloc C).alloc D).alloc E).alloc G).heap[w.heap.size + 2]? = some C := row_alloc (row_alloc (row_alloc (row_at (by simp))))
theorem new6_3 (w : World) (A B C D E G : Obj) : ((((((w.alloc A).alloc B).alloc C).alloc D).alloc E).alloc G).heap[w.heap.size + 3]? = some D := row_alloc (row_alloc (row_at (by simp)))
theorem new6_4 (w : World) (A B C D E G : Obj) : ((((((w.alloc A).alloc B).alloc C).alloc D).alloc E).alloc G).heap[w.heap.size + 4]? = some E := row_alloc (row_at (by simp))
theorem new6_5 (w : World) (A B C D E G : Obj) : ((((((w.alloc A).alloc B).alloc C).alloc D).alloc E).alloc G).heap[w.heap.size + 5]? = some G := row_at (by simp)
end Go.Proofs.YtemkpihfenokmaaDoor
