/- A reader of bytes is made. Condition: there are bytes, and memory can hold them. -/
import Derived.Test.YtmochmpamgfboaaDoorCodC
namespace Go.Proofs.YtmochmpamgfboaaDoor
open Go.RowKit
section
variable {P : Program} {o : Oper} {w : World} {Q : Exit → Act → World → Prop}
theorem wp_copy_run {K : Act → World → Prop} {a : Act} {w' : World} {v u v' : Value} (x y : Operand) (t t' : TypeId) (ho : o.op = .call { callee := .builtin .copy, args := #[x, y], argTypes := #[t, t'] }) (hx : a.eval x = v) (hy : a.eval y = u)
    (hr : (Builtin.copy_ #[t, t'] o.type #[v, u]).run P w = .ok v' w') (h : K (a.put o.dst v') w') : o.wp P a w K Q := by
  unfold Oper.wp execOp
  simp only [ho, resolve, invoke, builtin, Sem.run_bind, Sem.run_pure, Result.andThen_ok, List.map_toArray, List.map_cons, List.map_nil, hx, hy, hr]
  exact h
end
theorem held_copy {P : Program} {ops : Array Oper} {rest : List Oper} {o : Oper} {Q : Exit → Act → World → Prop} {a : Act} {w : World} (args : Array Operand) (tys : Array TypeId) (_ : o.op = .call { callee := .builtin .copy, args := args, argTypes := tys }) (h : Held (wpList P ops Q (o :: rest) a w)) : wpList P ops Q (o :: rest) a w := h
theorem BytesIn.src {w : World} {a : Addr} {l : List Int} (h : BytesIn w (some a) l) : ∀ j v, (l.map (Value.int .u8))[j]? = some v → w.cell? (a.add j) = some v := fun j v hv => by
  have hj : j < l.length := by
    have := (List.getElem?_eq_some_iff.1 hv).1
    simpa using this
  obtain ⟨_, e, _, h3⟩ := h j hj
  injection e with e
  subst e
  rw [h3, ← hv, List.getElem?_map, List.getElem?_eq_getElem hj]
  simp [nth, List.getD, List.getElem?_eq_getElem hj]
/-- What make and copy lay: the bytes, a reader of them. -/
def NewReader (w : World) (l : List Int) (n : Nat) (e : Ending) (w' : World) : Prop := Below w.heap.size w w' ∧ ∃ g1 g2 t1 t2, e = .returned (.pointer (some ⟨g2, 0, none⟩)) ∧ g1 ≠ g2 ∧ w.heap.size ≤ g1 ∧ w.heap.size ≤ g2 ∧ w'.heap[g1]? = some (.cells (vals l) t1 (0, 0)) ∧ w'.heap[g2]? = some (.cells #[.slice (some ⟨g1, 0, none⟩) n n, .int .i64 0] t2 (0, 0))
set_option maxRecDepth 100000 in
theorem newReader_any (p : Option Addr) (l : List Int) (n c : Nat) (w : World) (hn : l.length = n) (h0 : 0 < n) (h : BytesIn w p l) (hm : n ≤ 140737488355328) :
    Calls Tryd.prog 53 #[.slice p n c] w (NewReader w l n) := by
  obtain ⟨ie, hie, hsz⟩ := Option.map_eq_some_iff.1 (show (Tryd.prog.info? 5).map (fun i => (i.zero, i.size, i.bytes)) = some (some (.int .u8 0), 1, 1) by kernel_rfl)
  obtain ⟨hz, hs1, hb1⟩ : ie.zero = some (.int .u8 0) ∧ ie.size = 1 ∧ ie.bytes = 1 := by simpa using hsz
  have hmk : ∀ u : World, (Instr.makeSlice 26 (.int .i64 (n : Int)) (.int .i64 (n : Int))).run Tryd.prog u = .ok (.slice (some ⟨u.heap.size, 0, none⟩) n n) (u.alloc (.cells (vals (List.replicate n 0)) 5)) := fun u => by
    have hr := run_make (P := Tryd.prog) u 26 5 ie (.int .u8 0) Tryd.underlying26 hie hz .i64 .i64 (n : Int) (n : Int) (by omega) (Int.le_refl _) (by rw [hb1]; omega) (by omega)
    rw [Int.toNat_natCast, hs1, Nat.mul_one] at hr
    rw [hr, ← made_zero]
    rfl
  obtain ⟨a, rfl, _, _⟩ := h 0 (by omega)
  have hbs := BytesIn.src (h.under ((Below.refl _ _).alloc (Nat.le_refl _) (.cells (vals (List.replicate n 0)) 5)) (Nat.le_refl _))
  have hc : ∀ ty, (Builtin.copy_ #[26, 26] ty #[.slice (some ⟨w.heap.size, 0, none⟩) n n, .slice (some a) n c]).run Tryd.prog (w.alloc (.cells (vals (List.replicate n 0)) 5)) = .ok (goInt n) (w.alloc (.cells (vals l) 5)) := fun ty => by
    have hr := run_copy_row (P := Tryd.prog) (w.alloc (.cells (vals (List.replicate n 0)) 5)) 26 26 ty 5 w.heap.size 0 n n a n c (vals (List.replicate n 0)) 5 (l.map (Value.int .u8)) Tryd.underlying26 (by rw [hie]; simp [hs1]) (heap_alloc_new w _) (by simp [hn]) hbs (by simp [vals_size, hn]) (by simp [Value.oneCell'])
    rw [hr, World.setRow_alloc_new, List.length_map, hn]
    congr 3
    simp [vals]
  have HC := Lib.hid hc
  have HZ := Lib.hid h0
  clear hie hsz hz hs1 hb1 h hn hc hbs h0
  go_enter Tryd.func53, Tryd.ntmps53
  go_wp2_with ((with_reducible refine guard_list ?_); first | (refine held_copy _ _ rfl ?_))
  refine wpList_step fun K hK => if_always rfl ?_
  refine wp_copy_run _ _ _ _ rfl rfl rfl (HC.out _) (hK _ _ ?_)
  go_wp2
  exact ⟨rfl, .pointer (some ⟨w.heap.size + 1, 0, none⟩), by kernel_rfl, by go_grown, w.heap.size, w.heap.size + 1, _, _, rfl, by omega, by omega, by omega, new2_0 .., new2_1 ..⟩
end Go.Proofs.YtmochmpamgfboaaDoor
