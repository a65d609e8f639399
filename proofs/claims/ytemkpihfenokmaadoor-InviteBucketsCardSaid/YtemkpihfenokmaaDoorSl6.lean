/- Parts of a slice; a struct built of values. Said over any program. -/
import Derived.Test.YtemkpihfenokmaaDoorByt
namespace Go.Proofs.YtemkpihfenokmaaDoor
open Go.RowKit
section
variable {P : Program} {o : Oper} {a : Act} {w : World} {Q : Exit → Act → World → Prop} {d : Nat} {K : Act → World → Prop}
/-- x[l:h] -/
theorem op_cut {t : TypeId} (e : TypeId) (hu : P.underlying t = some (.slice e)) (hie : (P.info? e).map (·.size) = some 1) (x y z : Operand) (ho : o.op = .slice t x (some y) (some z) none) (hd : o.dst = some d) (ad : Addr) (n c l h : Nat) (hx : a.eval x = .slice (some ad) n c)
    (hy : a.eval y = .int .i64 l) (hz : a.eval z = .int .i64 h) (h1 : l ≤ h) (h2 : h ≤ c) (h3 : l < c)
    (hK : ∀ x w', x = .slice (some (ad.add l)) (h - l) (c - l) → Below w.heap.size w w' → K (a.put (some d) x) w') : o.wp P a w K Q := by
  refine op_val (V := (· = .slice (some (ad.add l)) (h - l) (c - l))) (.slice (some (ad.add l)) (h - l) (c - l)) hd ?_ rfl hK
  obtain ⟨ie, h4, hsz⟩ := Option.map_eq_some_iff.1 hie
  unfold execOp; rw [ho]
  show ((do let q ← Instr.sliceAt t (a.eval x) (some (a.eval y)) (some (a.eval z)) none; pure (Next.value q)) : Sem Next).run P w = _
  rw [hx, hy, hz]
  have hne : ¬ (c = l) := by omega
  have hE : P.elem t = e := by simp [Program.elem, hu]
  have hu' : P.underlying t = some (.slice (P.elem t)) := by rw [hE]; exact hu
  rw [Sem.run_bind, run_sliceAt_slice _ _ _ _ _ _ hu', run_slice_lh _ _ _ _ _ hu' .i64 .i64 (l : Int) (h : Int) (by omega) (by omega) (by omega), hE]
  simp [sizeOf, typeInfo, h4, hsz, sliced, hne]
/-- A struct out of parts. -/
theorem op_parts (t : TypeId) (pl : List (Nat × Operand)) (ps : List (Nat × Value)) (v : Value) (ho : o.op = .build t pl.toArray) (hd : o.dst = some d) (hp : pl.map (fun q => (q.1, a.eval q.2)) = ps) (hrun : ∀ w, (Instr.build t ps.toArray).run P w = .ok v w)
    (hK : ∀ x w', x = v → Below w.heap.size w w' → K (a.put (some d) x) w') : o.wp P a w K Q := by
  refine op_val (V := (· = v)) v hd ?_ rfl hK
  unfold execOp; rw [ho]
  show ((do let q ← Instr.build t (pl.toArray.map fun q => (q.1, a.eval q.2)); pure (Next.value q)) : Sem Next).run P w = _
  rw [List.map_toArray, hp, Sem.run_bind, hrun w]
  rfl
end
/-- The bytes of a part. -/
theorem BytesIn.sub {w : World} {a : Addr} {l : List Int} (h : BytesIn w (some a) l) (o n : Nat) : BytesIn w (some (a.add o)) ((l.drop o).take n) := fun i hi => by
  rw [List.length_take, List.length_drop] at hi
  obtain ⟨_, e, h2, h3⟩ := h (o + i) (by omega)
  injection e with e
  subst e
  refine ⟨_, rfl, by rw [add_block]; exact h2, ?_⟩
  rw [add_twice, h3]
  congr 2
  simp only [nth, List.getD_eq_getElem?_getD]
  rw [List.getElem?_take, if_pos (by omega), List.getElem?_drop]
end Go.Proofs.YtemkpihfenokmaaDoor
