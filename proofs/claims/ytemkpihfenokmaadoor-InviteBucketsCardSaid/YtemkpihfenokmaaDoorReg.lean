/- Regions that draw their order: a whole row read first; a whole row written where the order is forced. Said over any program. No condition. -/
import Derived.Test.YtemkpihfenokmaaDoorRow
import Derived.Test.YtemkpihfenokmaaDoorEq
import Derived.Deep.RegionHeld3
namespace Go.Proofs.YtemkpihfenokmaaDoor
open Go.RowKit
variable {P : Program}

theorem yieldsIf_row {ops : Array Oper} {S : World → Prop} {op : Oper} {a : Act} (hw : Region.wanted op (yielded ops a.tmps) = true) (ty : TypeId) (x : Operand) (ho : op.op = .load ty x)
    (g : Nat) (hx : a.eval x = .pointer (some ⟨g, 0, none⟩)) (cs : Array Value) (t : TypeId) (hS : ∀ w, S w → w.heap[g]? = some (.cells cs t (0, 0))) (n : Nat) (hT : RowT P ty n) (hn : cs.size = n) :
    YieldsIf P ops S op (.agg cs) a := by
  obtain ⟨d, h1, h2, h3⟩ := hT
  subst hn
  refine .inl ⟨hw, fun w hw' => ?_⟩
  unfold execOp
  simp only [ho, hx, Instr.loadAt, Instr.sureAddr, Sem.run_bind, Sem.run_pure, Result.andThen_ok, run_loadVar_row w g t ty cs (0, 0) d (hS w hw') h1 (by cases d <;> simp_all) h3]

theorem wp_st_row {o : Oper} {a : Act} {w : World} {K : Act → World → Prop} {Q : Exit → Act → World → Prop} (ty : TypeId) (x y : Operand) (ho : o.op = .store ty x y)
    (g : Nat) (cs : Array Value) (hx : a.eval x = .pointer (some ⟨g, 0, none⟩)) (hy : a.eval y = .agg cs) (t : TypeId) (old : Array Value) (hg : w.heap[g]? = some (.cells old t (0, 0)))
    (n : Nat) (hT : RowT P ty n) (hn : cs.size = n) (ho' : old.size = n) (h1 : cs.all (·.oneCell') = true) (h : K (a.put o.dst undef) (w.setRow g cs)) : o.wp P a w K Q := by
  obtain ⟨d, _, _, h3⟩ := hT
  subst hn
  exact wp_store_row ty x y ho g cs hx hy t old hg h3 ho' h1 h

theorem row_drew {w : World} {g : Nat} {o : Obj} (h : w.heap[g]? = some o) : w.drew.heap[g]? = some o := h
/-- What a call leaves of a row. -/
theorem row_call {W w1 : World} {g : Nat} {cs : Array Value} {t : TypeId} (hb : Below W.heap.size W w1) (h : W.heap[g]? = some (.cells cs t (0, 0))) : w1.heap[g]? = some (.cells cs t (0, 0)) := row_keep hb h (row_lt h)
end Go.Proofs.YtemkpihfenokmaaDoor
