/- A new Hash: digest.New, Reset. Condition: the program's variables as their texts lay them. -/
import Derived.Test.YtemkpihfenokmaaDoorShaG
import Derived.Test.YtemkpihfenokmaaDoorRin
namespace Go.Proofs.YtemkpihfenokmaaDoor
open Go.RowKit
section
variable {o : Oper} {w : World} {a : Act} {Q : Exit → Act → World → Prop} {ops : Array Oper} {rest : List Oper} {P : Program}
/-- A whole value into the middle of a row. -/
theorem st_part (hgd : o.guard = none) (ty : TypeId) (x y : Operand) (ho : o.op = .store ty x y) (g off : Nat) (cs : Array Value) (hx : a.eval x = .pointer (some ⟨g, off, none⟩)) (hy : a.eval y = .agg cs) (t : TypeId) (old : Array Value) (hg : w.heap[g]? = some (.cells old t (0, 0)))
    (n : Nat) (hT : RowT P ty n) (hn : cs.size = n) (hfit : off + n ≤ old.size) (h1 : cs.all (·.oneCell') = true)
    (h : wpList P ops Q rest (a.put o.dst undef) (w.setRow g (old.toList.take off ++ (cs.toList ++ old.toList.drop (off + n))).toArray)) : wpList P ops Q (o :: rest) a w := by
  obtain ⟨d, _, _, h3⟩ := hT
  subst hn
  refine wpList_step fun K hK => if_always hgd ?_
  have hst := run_storeCells_at P g off t cs.toList 0 old w hg (by simpa using hfit) (fun v hv => (Array.all_eq_true_iff_forall_mem.1 h1) v (by simpa using hv))
  have hv : (storeVar ty ⟨g, off, none⟩ (.agg cs)).run P w = .ok () (w.setRow g (old.toList.take off ++ (cs.toList ++ old.toList.drop (off + cs.size))).toArray) := by
    cases hq : P.info? ty with
    | none => simp [hq] at h3
    | some i =>
      have hs : cs.size = i.size := by simp [hq] at h3; omega
      simp only [Nat.add_zero, List.append_assoc, Array.length_toList] at hst
      simp [storeVar, sizeOf, typeInfo, hq, Value.cells, hs, hst]
  unfold Oper.wp execOp
  simp only [ho, hx, hy, Instr.storeAt, Instr.sureAddr, Sem.run_bind, Sem.run_pure, Result.andThen_ok, hv]
  exact hK _ _ h
theorem held_bld {P : Program} {ops : Array Oper} {rest : List Oper} {o : Oper} {Q : Exit → Act → World → Prop} {a : Act} {w : World} (t : TypeId) (ps : Array (Nat × Operand)) (_ : o.op = .build t ps) (h : Held (wpList P ops Q (o :: rest) a w)) : wpList P ops Q (o :: rest) a w := h
/-- A value built whole of nothing. -/
theorem wpl_zero (hgd : o.guard = none) (t : TypeId) (ho : o.op = .build t #[]) (v : Value) (hrun : ∀ w, (Instr.build t #[]).run P w = .ok v w) (h : wpList P ops Q rest (a.put o.dst v) w) : wpList P ops Q (o :: rest) a w := by
  refine wpList_step fun K hK => if_always hgd (wp_val v ?_ (hK _ _ h))
  unfold execOp; rw [ho]
  show ((do let q ← Instr.build t (Array.map (fun q : Nat × Operand => (q.1, a.eval q.2)) #[]); pure (Next.value q)) : Sem Next).run P w = _
  rw [Array.map_empty, Sem.run_bind, hrun w]
  rfl
theorem held_alloc {P : Program} {ops : Array Oper} {rest : List Oper} {o : Oper} {Q : Exit → Act → World → Prop} {a : Act} {w : World} (t : TypeId) (_ : o.op = .alloc t) (h : Held (wpList P ops Q (o :: rest) a w)) : wpList P ops Q (o :: rest) a w := h
/-- A new variable, its cells named. -/
theorem wpl_alloc (hgd : o.guard = none) (t : TypeId) (ho : o.op = .alloc t) (v : Value) (cs : Array Value) (hv : v.cells = cs) (hrun : ∀ w, (zeroValue t).run P w = .ok v w) (h : wpList P ops Q rest (a.put o.dst (.pointer (some ⟨w.heap.size, 0, none⟩))) (w.alloc (.cells cs t))) : wpList P ops Q (o :: rest) a w := by
  subst hv
  refine wpList_step fun K hK => if_always hgd ?_
  unfold Oper.wp
  rw [show (execOp a.eval o).run P w = .ok (.value (.pointer (some ⟨w.heap.size, 0, none⟩))) (w.alloc (.cells v.cells t)) from ?_, Oper.upon_value]
  · exact hK _ _ h
  · unfold execOp; rw [ho]
    simp [Instr.alloc, hrun, newVar, newRow]
end
/-- Noughts. -/
def zer (n : Nat) : List Int := List.replicate n 0
theorem zer_len (n : Nat) : (zer n).length = n := List.length_replicate
/-- The words ahead of the first block lie in block 0. -/
def Fst (w : World) : Prop := 0 < w.heap.size ∧ ∀ j, j < 8 → w.cell? ⟨0, j, none⟩ = some (.int .u32 (nth first8 j))
theorem Fst.cells {w : World} (h : Fst w) : CellsAt w ⟨0, 0, none⟩ (words first8) := fun j v hv => by
  have hj : j < 8 := by
    have := (Array.getElem?_eq_some_iff.1 hv).1
    exact this
  rw [add_lit, h.2 j hj, ← words_get (show j < first8.length from hj)]
  exact hv
theorem Fst.under {w w' : World} {B : Nat} (h : Fst w) (hb : Below B w w') (hB : 0 < B := by assumption) : Fst w' :=
  ⟨Nat.lt_of_lt_of_le h.1 hb.size, fun j hj => (World.cell?_of_block (hb.block 0 hB)).trans (h.2 j hj)⟩
theorem Tab.under {w w' : World} {B : Nat} (h : Tab w) (hb : Below B w w') (hB : 1 < B := by assumption) : Tab w' :=
  ⟨Nat.lt_of_lt_of_le h.1 hb.size, fun j hj => (World.cell?_of_block (hb.block 1 hB)).trans (h.2 j hj)⟩
set_option maxHeartbeats 4000000 in
set_option maxRecDepth 100000 in
theorem reset_any (g : Nat) (st bk : List Int) (u z : Int) (w : World) (hs : st.length = 8) (hb : bk.length = 64) (hr : w.heap[g]? = some (.cells (hashC st bk u z) 56 (0, 0))) (hf : Fst w) :
    Calls Tryd.prog 21 #[.pointer (some ⟨g, 0, none⟩)] w (fun e w' => e = .returned (.tuple #[]) ∧ w.grownBy w' (some g) ∧ w'.heap[g]? = some (.cells (hashC first8 bk 0 0) 56 (0, 0))) := by
  have HF := Lib.hid hf
  have HROW := Lib.hid hr
  have HS := Lib.hid hs
  have HB := Lib.hid hb
  clear hf hr hs hb
  go_enter Tryd.func21, Tryd.ntmps21
  go_wp2_with first
    | ((with_reducible refine guard_list ?_); refine held_load 50 _ rfl ?_; refine wpl_ld_at2 rfl _ _ rfl ⟨0, 0, none⟩ rfl (words first8) 8 tW8 rfl HF.out.cells ?_)
    | ((with_reducible refine guard_list ?_); refine held_st 50 _ _ rfl ?_)
  refine st_part rfl _ _ _ rfl g 0 (words first8) rfl rfl _ _ HROW.out 8 tW8 rfl (by simp [hashC, HS.out, HB.out]) (words_one _) ?_
  have HC := Lib.hid (show ((hashC st bk u z).toList.take 0 ++ ((words first8).toList ++ (hashC st bk u z).toList.drop (0 + 8))).toArray = hashC first8 bk u z by
    apply Array.ext'
    simp only [hashC]
    rw [List.take_zero, List.nil_append, List.append_assoc, List.drop_append_of_le_length (by simp [HS.out]), List.drop_of_length_le (by simp [HS.out]), List.nil_append, List.append_assoc]
    rfl)
  rw [HC.out]
  have HR1 := Lib.hid (row_put (cs' := hashC first8 bk u z) HROW.out)
  have HG1 := Lib.hid (grown_setRow (hashC first8 bk u z) (grown_of_below (Below.refl w.heap.size w) (some g)))
  generalize w.setRow g (hashC first8 bk u z) = w1 at *
  have f72 := row_free HR1.out 72
  have f73 := row_free HR1.out 73
  have v72 := (row_cell HR1.out 72).trans (hash_at72 rfl HB.out)
  have v73 := (row_cell HR1.out 73).trans (hash_at73 rfl HB.out)
  go_wp2_with fail
  refine ⟨rfl, .tuple #[], by kernel_rfl, rfl, grown_setCell _ (grown_setCell _ HG1.out), ?_⟩
  rw [heap_setCell_same _ _ _ _ _ _ (heap_setCell_same _ _ _ _ _ _ HR1.out), hash_u rfl HB.out, hash_z rfl HB.out]
set_option maxHeartbeats 4000000 in
set_option maxRecDepth 100000 in
theorem new_any (w : World) (hf : Fst w) (h0 : 0 < w.heap.size) :
    Calls Tryd.prog 12 #[] w (fun e w' => ∃ g, e = .returned (.pointer (some ⟨g, 0, none⟩)) ∧ w.heap.size ≤ g ∧ Below w.heap.size w w' ∧ HashAt w' g [] 0) := by
  have HF := Lib.hid hf
  clear hf
  go_enter Tryd.func12, Tryd.ntmps12
  have HA := Lib.hid ((Below.refl w.heap.size w).alloc (Nat.le_refl _) (.cells (hashC (zer 8) (zer 64) 0 0) 56))
  go_wp2_with first
    | ((with_reducible refine guard_list ?_); refine held_bld 56 _ rfl ?_; refine wpl_zero rfl 56 rfl (.agg (hashC (zer 8) (zer 64) 0 0)) (fun w => by kernel_rfl) ?_)
    | (go_at_call 21; refine (reset_any w.heap.size (zer 8) (zer 64) 0 0 _ (zer_len 8) (zer_len 64) (heap_alloc_new w _) (HF.out.under HA.out)).mono ?_; rintro e w5 ⟨rfl, hgr5, hr5⟩; have HR5 := Lib.hid hr5; have HG5 := Lib.hid hgr5; clear hr5 hgr5)
  refine ⟨rfl, .pointer (some ⟨w.heap.size, 0, none⟩), by kernel_rfl, w.heap.size, rfl, Nat.le_refl _, HA.out.grown HG5.out HA.out.size (fun k hk => by cases hk; exact Nat.le_refl _), zer 64, ⟨zer_len 64, fun x hx => ?_, rfl⟩, HR5.out⟩
  obtain rfl := List.eq_of_mem_replicate hx
  decide
end Go.Proofs.YtemkpihfenokmaaDoor
