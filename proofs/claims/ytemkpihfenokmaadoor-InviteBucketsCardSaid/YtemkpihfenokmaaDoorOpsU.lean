/- A drawn region in which one call hands back memory of its own; cuts of slices; bytes as a row; a result cell beside two others. -/
import Derived.Test.YtemkpihfenokmaaDoorBuf
namespace Go.Proofs.YtemkpihfenokmaaDoor
open Go.RowKit
section
variable {P : Program}
/-- As wp_region_most, without new variables; operation u's value is so in the world that comes behind it (a fact that stays). -/
theorem wp_region_one {id : Nat} {Q : Exit → Act → World → Prop} {w : World} {l : List Oper} {t0 : Array Value} {df : List Deferred} (n u : Nat) (hu : u < n) (D : Nat → Nat) (V : Nat → Value → Prop) (U : Value → World → Prop) (S : World → Prop)
    (hm : P.follows .mixedOrders = true) (hB : headB l.toArray n = true) (hD : ∀ i j, i < n → j < n → j ≠ i → D j ≠ D i) (hDs : ∀ i, i < n → D i < t0.size) (h0 : S w.drew)
    (hSb : ∀ w w', S w → Below w.heap.size w w' → S w') (hUb : ∀ x w w', U x w → Below w.heap.size w w' → U x w')
    (hval : ∀ i o, i < n → i ≠ u → l[i]? = some o → o.dst = some (D i) ∧ ∀ (a : Act) (w : World), S w → (∀ k, (∀ j, j < n → D j ≠ k) → a.tmps[k]? = t0[k]?) →
      (∀ j, depB o j = true → j < n → j ≠ u → ∃ x, a.tmps[D j]? = some x ∧ V j x) → ∀ K : Act → World → Prop, (∀ x w', V i x → Below w.heap.size w w' → K (a.put (some (D i)) x) w') →
        if Region.wanted o (yielded l.toArray a.tmps) = true then o.wp P a w K Q else K (a.put (some (D i)) undef) w)
    (hone : ∀ o, l[u]? = some o → o.dst = some (D u) ∧ ∀ (a : Act) (w : World), S w → (∀ k, (∀ j, j < n → D j ≠ k) → a.tmps[k]? = t0[k]?) →
      (∀ j, depB o j = true → j < n → j ≠ u → ∃ x, a.tmps[D j]? = some x ∧ V j x) → ∀ K : Act → World → Prop, (∀ x w', U x w' → Below w.heap.size w w' → K (a.put (some (D u)) x) w') →
        if Region.wanted o (yielded l.toArray a.tmps) = true then o.wp P a w K Q else K (a.put (some (D u)) undef) w)
    (tail : ∀ (t : Array Value) (w : World), t.size = t0.size → (∀ k, (∀ j, j < n → D j ≠ k) → t[k]? = t0[k]?) → (∀ j, j < n → j ≠ u → ∃ x, t[D j]? = some x ∧ V j x) → (∃ x, t[D u]? = some x ∧ U x w) → S w → wpList P l.toArray Q (l.drop n) ⟨t, df⟩ w) :
    (Code.region id l.toArray true).wp P Q ⟨t0, df⟩ w := by
  refine wp_region_inv n hm hB (fun f a w => ∃ v, a = ⟨fillA D f v n t0, df⟩ ∧ S w ∧ (∀ j, j < n → f j = true → j ≠ u → V j (v j)) ∧ (f u = true → U (v u) w)) ⟨fun _ => undef, by rw [fillA_none], h0, fun j _ h _ => by simp at h, fun h => by simp at h⟩ ?_ ?_
  · rintro f a w i o hi ho hfi hdep ⟨v, rfl, hS, hV, hU⟩ K hK
    have hput : ∀ x, (Act.put ⟨fillA D f v n t0, df⟩ (some (D i)) x) = ⟨fillA D (upF f i) (upV v i x) n t0, df⟩ := by
      intro x
      show (⟨(fillA D f v n t0).setIfInBounds (D i) x, df⟩ : Act) = _
      rw [fillA_put D f v i x n t0 hi hfi (fun j hj hne => hD i j hi hj hne)]
    have hup : ∀ j, j ≠ i → ∀ x, upF f i j = f j ∧ upV v i x j = v j := fun j hj x => ⟨by simp only [upF]; rw [if_neg hj], by simp only [upV]; rw [if_neg hj]⟩
    have hself : ∀ x, upV v i x i = x := fun x => by simp [upV]
    have hin : ∀ j, depB o j = true → j < n → j ≠ u → ∃ x, (fillA D f v n t0)[D j]? = some x ∧ V j x := fun j hj hjn hju => by
      obtain ⟨e, he, hbn, rfl⟩ := depB_mem hj
      have hfj := hdep e he hbn
      exact ⟨v e.on, fillA_get D f v e.on n t0 hjn hfj (hDs _ hjn) (fun k hk hne => hD _ k hjn hk hne), hV _ hjn hfj hju⟩
    by_cases hiu : i = u
    · subst hiu
      obtain ⟨h1, h2⟩ := hone o ho
      rw [h1]
      refine h2 _ w hS (fun k hk => fillA_other D f v k n t0 hk) hin K fun x w' hx hb => ?_
      rw [hput x]
      refine hK _ _ ⟨_, rfl, hSb _ _ hS hb, fun j hj hf hju => ?_, fun _ => by rw [hself]; exact hx⟩
      obtain ⟨e1, e2⟩ := hup j hju x
      rw [e1] at hf; rw [e2]; exact hV j hj hf hju
    · obtain ⟨h1, h2⟩ := hval i o hi hiu ho
      rw [h1]
      refine h2 _ w hS (fun k hk => fillA_other D f v k n t0 hk) hin K fun x w' hx hb => ?_
      rw [hput x]
      refine hK _ _ ⟨_, rfl, hSb _ _ hS hb, fun j hj hf hju => ?_, fun hf => ?_⟩
      · by_cases e : j = i
        · subst e; rw [hself]; exact hx
        · obtain ⟨e1, e2⟩ := hup j e x
          rw [e1] at hf; rw [e2]; exact hV j hj hf hju
      · obtain ⟨e1, e2⟩ := hup u (fun e => hiu e.symm) x
        rw [e1] at hf; rw [e2]; exact hUb _ _ _ (hU hf) hb
  · rintro f a w hf ⟨v, rfl, hS, hV, hU⟩
    have hget : ∀ j, j < n → (fillA D f v n t0)[D j]? = some (v j) := fun j hj => fillA_get D f v j n t0 hj (hf j hj) (hDs _ hj) (fun k hk hne => hD _ k hj hk hne)
    exact tail _ w (fillA_size D f v n t0) (fun k hk => fillA_other D f v k n t0 hk) (fun j hj hju => ⟨v j, hget j hj, hV j hj (hf j hj) hju⟩) ⟨v u, hget u hu, hU (hf u hu)⟩ hS
variable {o : Oper} {a : Act} {w : World} {Q : Exit → Act → World → Prop} {K : Act → World → Prop} {d : Nat}
/-- A call that hands back bytes of its own. -/
theorem op_newv (f : FuncId) (x : Operand) (tys : Array TypeId) (v : Value) (l : List Int)
    (ho : o.op = .call { callee := .value (.func f), args := #[x], argTypes := tys }) (hd : o.dst = some d) (hx : a.eval x = v)
    (hf : ∀ (args : Array Value) (w : World), (callFunc f args).run P w = .ok (.enter f args) w) (h : Calls P f #[v] w (NewV w l))
    (hK : ∀ x w', Bts w' w.heap.size x l → Below w.heap.size w w' → K (a.put (some d) x) w') : o.wp P a w K Q := by
  refine wp_fn1 _ _ _ _ ho hx hf (h.mono fun e w' hr => ?_)
  obtain ⟨hb, r, he, hk⟩ := hr
  exact ⟨r, he, by rw [hd]; exact hK r w' hk hb⟩
/-- b[lo:] -/
theorem op_from {t : TypeId} (e : TypeId) (hu : P.underlying t = some (.slice e)) (hie : (P.info? e).map (·.size) = some 1) (x y : Operand) (ho : o.op = .slice t x (some y) none none) (hd : o.dst = some d) (ad : Addr) (n c l : Nat) (hx : a.eval x = .slice (some ad) n c)
    (hy : a.eval y = .int .i64 l) (h1 : l ≤ n) (h3 : l < c)
    (hK : ∀ x w', x = .slice (some (ad.add l)) (n - l) (c - l) → Below w.heap.size w w' → K (a.put (some d) x) w') : o.wp P a w K Q := by
  refine op_val (V := (· = .slice (some (ad.add l)) (n - l) (c - l))) (.slice (some (ad.add l)) (n - l) (c - l)) hd ?_ rfl hK
  obtain ⟨ie, h4, hsz⟩ := Option.map_eq_some_iff.1 hie
  unfold execOp; rw [ho]
  show ((do let q ← Instr.sliceAt t (a.eval x) (some (a.eval y)) none none; pure (Next.value q)) : Sem Next).run P w = _
  rw [hx, hy]
  have hne : ¬ (c = l) := by omega
  have hE : P.elem t = e := by simp [Program.elem, hu]
  have hu' : P.underlying t = some (.slice (P.elem t)) := by rw [hE]; exact hu
  rw [Sem.run_bind, run_sliceAt_slice _ _ _ _ _ _ hu', run_slice_l _ _ _ _ _ hu' .i64 (l : Int) (by omega) (by omega), hE]
  simp [sizeOf, typeInfo, h4, hsz, sliced, hne]
/-- b[:hi] -/
theorem op_upto {t : TypeId} (e : TypeId) (hu : P.underlying t = some (.slice e)) (hie : (P.info? e).map (·.size) = some 1) (x y : Operand) (ho : o.op = .slice t x none (some y) none) (hd : o.dst = some d) (ad : Addr) (n c h : Nat) (hx : a.eval x = .slice (some ad) n c)
    (hy : a.eval y = .int .i64 h) (h1 : h ≤ c)
    (hK : ∀ x w', x = .slice (some ad) h c → Below w.heap.size w w' → K (a.put (some d) x) w') : o.wp P a w K Q := by
  refine op_val (V := (· = .slice (some ad) h c)) (.slice (some ad) h c) hd ?_ rfl hK
  obtain ⟨ie, h4, hsz⟩ := Option.map_eq_some_iff.1 hie
  unfold execOp; rw [ho]
  show ((do let q ← Instr.sliceAt t (a.eval x) none (some (a.eval y)) none; pure (Next.value q)) : Sem Next).run P w = _
  rw [hx, hy]
  have hE : P.elem t = e := by simp [Program.elem, hu]
  have hu' : P.underlying t = some (.slice (P.elem t)) := by rw [hE]; exact hu
  rw [Sem.run_bind, run_sliceAt_slice _ _ _ _ _ _ hu', run_slice_h _ _ _ _ _ hu' .i64 (h : Int) (by omega) (by omega), hE]
  simp [sizeOf, typeInfo, h4, hsz, sliced, Addr.add]
/-- The address of a slice's head, as an array's. -/
theorem op_toarr {t : TypeId} (e : TypeId) (m : Nat) (hu : P.underlying t = some (.array m e)) (x : Operand) (ho : o.op = .sliceToArrayPointer t x) (hd : o.dst = some d) (p : Option Addr) (n c : Nat) (hx : a.eval x = .slice p n c) (h1 : m ≤ n)
    (hK : ∀ x w', x = .pointer p → Below w.heap.size w w' → K (a.put (some d) x) w') : o.wp P a w K Q := by
  refine op_val (V := (· = .pointer p)) (.pointer p) hd ?_ rfl hK
  unfold execOp; rw [ho]
  show ((do let q ← Instr.arrayAt t (a.eval x); pure (Next.value q)) : Sem Next).run P w = _
  rw [hx, Sem.run_bind, run_arrayAt _ _ e m p n c hu h1]
  rfl
theorem results_cell_tmp2 {fn : Func} {p u u' : Tmp} {ty : TypeId} (h : fn.results = #[.cell p ty, .tmp u, .tmp u']) (tmps : Array Value) (P : Program) (w : World) :
    (results fn tmps).run P w =
      ((asAddr (tmps.getD p undef)).run P w).andThen fun a w₁ => ((loadVar ty a).run P w₁).andThen fun v w₂ => .ok (.tuple #[v, tmps.getD u undef, tmps.getD u' undef]) w₂ := by
  simp only [results, h]
  simp [Sem.run_bind, Result.andThen]
/-- What a function with one cell and two other results hands back. -/
theorem ret_row_tmp2 {fn : Func} {R : Ending → World → Prop} {a : Act} {w : World} {p u u' : Tmp} {ty : TypeId} (h : fn.results = #[.cell p ty, .tmp u, .tmp u']) (g : Nat) (cs : Array Value) (t : TypeId)
    (hp : a.tmps.getD p undef = .pointer (some ⟨g, 0, none⟩)) (hg : w.heap[g]? = some (.cells cs t (0, 0))) (n : Nat) (hT : RowT P ty n) (hn : cs.size = n) (hd : a.defers = [])
    (hR : R (.returned (.tuple #[.agg cs, a.tmps.getD u undef, a.tmps.getD u' undef])) w) : bodyPost P fn R .ret a w := by
  obtain ⟨d, h1, h2, h3⟩ := hT
  subst hn
  refine bodyPost_ret (v := .tuple #[.agg cs, a.tmps.getD u undef, a.tmps.getD u' undef]) ?_ hd hR
  have hl := run_loadVar_row (P := P) w g t ty cs (0, 0) d hg h1 (by cases d <;> simp_all) h3
  rw [results_cell_tmp2 h a.tmps P w, hp]
  simp [asAddr, hl]
end
theorem held_st {P : Program} {ops : Array Oper} {rest : List Oper} {o : Oper} {Q : Exit → Act → World → Prop} {a : Act} {w : World} (ty : TypeId) (x y : Operand) (_ : o.op = .store ty x y) (h : Held (wpList P ops Q (o :: rest) a w)) : wpList P ops Q (o :: rest) a w := h
theorem cellsAt_bytes {w : World} {ad : Addr} {l : List Int} (h : BytesIn w (some ad) l) : CellsAt w ad (vals l) := fun j v hv => h.src j v (by simpa [vals] using hv)
end Go.Proofs.YtemkpihfenokmaaDoor
