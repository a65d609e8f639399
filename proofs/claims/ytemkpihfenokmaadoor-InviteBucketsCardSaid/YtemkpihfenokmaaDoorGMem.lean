/- The rows that a call has made, each with what it holds: one fact for all of them. Said over any program. -/
import Derived.Test.YtemkpihfenokmaaDoorProg
import Derived.Test.YtemkpihfenokmaaDoorOps3
import Derived.Test.YtemkpihfenokmaaDoorOps5
import Derived.Test.YtemkpihfenokmaaDoorOps6
import Derived.Test.YtemkpihfenokmaaDoorElem2
namespace Go.Proofs.YtemkpihfenokmaaDoor
open Go.RowKit
theorem ptr_inj {a b : Nat} (h : some (Value.pointer (some ⟨a, 0, none⟩)) = some (Value.pointer (some ⟨b, 0, none⟩))) : a = b := by
  injection h with h; injection h with h; injection h with h; injection h
theorem if_guard_un {o : Oper} {ops : Array Oper} {t : Array Value} {j d : Nat} {b : Bool} {p q : Prop} (h : o.guard = some (j, b)) (hd : (ops[j]?).bind (·.dst) = some d) (ht : t[d]? = some undef) (hq : q) : if Region.wanted o (yielded ops t) = true then p else q := by
  have hy : yielded ops t j = none := by unfold yielded; rw [hd]; simp [ht, undef]
  rw [if_neg (by simp [Region.wanted, h, hy])]; exact hq
theorem neq_bool {p q : Operand} (a b : Bool) (w : World) : (do eqGuard .neq 4 p q (.bool a) (.bool b); binOp .neq 4 (.bool a) (.bool b) : Sem Value).run Tryd.prog w = .ok (.bool (a != b)) w := by
  cases a <;> cases b <;> kernel_rfl
theorem neq_same {p q : Operand} (a b : Bool) (h : a = b) (w : World) : (do eqGuard .neq 4 p q (.bool a) (.bool b); binOp .neq 4 (.bool a) (.bool b) : Sem Value).run Tryd.prog w = .ok (.bool false) w := by
  subst h; cases a <;> kernel_rfl

/-- The call's own rows: block, number of cells, what is held. -/
def Own (b : World) (L : List (Nat × Nat × (Value → Prop))) (w : World) : Prop :=
  Below b.heap.size b w ∧ (L.map (·.1)).Nodup ∧ ∀ r ∈ L, b.heap.size ≤ r.1 ∧ ∃ cs t, w.heap[r.1]? = some (.cells cs t (0, 0)) ∧ cs.size = r.2.1 ∧ r.2.2 (.agg cs)

section
variable {P : Program} {b w w' : World} {L : List (Nat × Nat × (Value → Prop))}
theorem Own.keep (h : Own b L w) (hb : Below w.heap.size w w') : Own b L w' :=
  ⟨below_call hb h.1, h.2.1, fun r hr => ⟨(h.2.2 r hr).1, by obtain ⟨cs, t, h1, h2, h3⟩ := (h.2.2 r hr).2; exact ⟨cs, t, row_call hb h1, h2, h3⟩⟩⟩
theorem Own.drew (h : Own b L w) : Own b L w.drew := ⟨h.1.drew, h.2.1, h.2.2⟩
theorem Own.get (h : Own b L w) {i g n : Nat} {V : Value → Prop} (hi : L[i]? = some (g, n, V)) : ∃ cs t, w.heap[g]? = some (.cells cs t (0, 0)) ∧ cs.size = n ∧ V (.agg cs) := (h.2.2 _ (List.mem_of_getElem? hi)).2
theorem Own.lt (h : Own b L w) : ∀ r ∈ L, r.1 < w.heap.size := fun r hr => by
  obtain ⟨cs, t, h1, _⟩ := (h.2.2 r hr).2
  exact row_lt h1
theorem Own.ge (h : Own b L w) {i g n : Nat} {V : Value → Prop} (hi : L[i]? = some (g, n, V)) : b.heap.size ≤ g := (h.2.2 _ (List.mem_of_getElem? hi)).1
theorem Own.start (b : World) : Own b [] b := ⟨Below.refl _ _, List.nodup_nil, fun r hr => by cases hr⟩
theorem Own.of_below (h : Below b.heap.size b w) : Own b [] w := ⟨h, List.nodup_nil, fun r hr => by cases hr⟩
theorem Own.add (h : Own b L w) {g n : Nat} {V : Value → Prop} (hg : b.heap.size ≤ g) (hne : ∀ r ∈ L, r.1 ≠ g) (hr : ∃ cs t, w.heap[g]? = some (.cells cs t (0, 0)) ∧ cs.size = n ∧ V (.agg cs)) : Own b (L ++ [(g, n, V)]) w := by
  refine ⟨h.1, ?_, fun r hr' => ?_⟩
  · rw [List.map_append]
    refine List.nodup_append.2 ⟨h.2.1, by simp, fun x hx y hy => ?_⟩
    obtain ⟨r, hrL, rfl⟩ := List.mem_map.1 hx
    simp only [List.map_cons, List.map_nil, List.mem_singleton] at hy
    subst hy
    exact hne r hrL
  · rcases List.mem_append.1 hr' with h' | h'
    · exact h.2.2 r h'
    · simp only [List.mem_singleton] at h'
      subst h'
      exact ⟨hg, hr⟩
theorem Own.far (h : Own b L w) {g : Nat} (hlt : ∀ r ∈ L, r.1 ≠ g) (hg : b.heap.size ≤ g) (cs : Array Value) : Own b L (w.setRow g cs) :=
  ⟨below_setRow h.1 hg cs, h.2.1, fun r hr => ⟨(h.2.2 r hr).1, by obtain ⟨c, t, h1, h2, h3⟩ := (h.2.2 r hr).2; exact ⟨c, t, row_put_other h1 (hlt r hr), h2, h3⟩⟩⟩
theorem Own.far_size (g : Nat) (cs : Array Value) {M : Nat} (h : M ≤ w.heap.size) : M ≤ (w.setRow g cs).heap.size := by simpa [World.setRow] using h
theorem stored_of {V : Value → Prop} {n : Nat} {x : Value} {cs : Array Value} (hx : V x) (e : some x = some (.agg cs)) (hvc : ∀ v, V v → ∃ cs, v = .agg cs ∧ cs.size = n ∧ cs.all (·.oneCell') = true) : cs.size = n ∧ V (.agg cs) := by
  injection e with e; subst e
  obtain ⟨c, e1, e2, _⟩ := hvc _ hx
  injection e1 with e1; subst e1
  exact ⟨e2, hx⟩
theorem Own.ne_app {g g1 n1 : Nat} {V1 : Value → Prop} (h : ∀ r ∈ L, r.1 ≠ g) (h1 : g1 ≠ g) : ∀ r ∈ L ++ [(g1, n1, V1)], r.1 ≠ g := fun r hr => by
  rcases List.mem_append.1 hr with h' | h'
  · exact h r h'
  · simp only [List.mem_singleton] at h'; subst h'; exact h1
theorem Own.any {g n : Nat} (h : ∃ cs t, w.heap[g]? = some (Obj.cells cs t (0, 0)) ∧ cs.size = n) : ∃ cs t, w.heap[g]? = some (Obj.cells cs t (0, 0)) ∧ cs.size = n ∧ True := by
  obtain ⟨cs, t, h1, h2⟩ := h; exact ⟨cs, t, h1, h2, trivial⟩
theorem Own.take (h : Own b L w) (k : Nat) : Own b (L.take k) w :=
  ⟨h.1, by rw [List.map_take]; exact h.2.1.sublist (List.take_sublist _ _), fun r hr => h.2.2 r (List.mem_of_mem_take hr)⟩
theorem Own.put (h : Own b L w) {i g n : Nat} {V V' : Value → Prop} (hi : L[i]? = some (g, n, V)) (cs : Array Value) (hcs : cs.size = n) (hV : V' (.agg cs)) : Own b (L.set i (g, n, V')) (w.setRow g cs) := by
  have hm : (L.set i (g, n, V')).map (·.1) = L.map (·.1) := by
    rw [List.map_set]
    refine List.ext_getElem? fun k => ?_
    rw [List.getElem?_set]
    split
    · rename_i e
      subst e
      have : i < (L.map (·.1)).length := by rw [List.length_map]; exact (List.getElem?_eq_some_iff.1 hi).1
      simp only [this, if_true]
      rw [List.getElem?_map, hi]; rfl
    · rfl
  refine ⟨below_setRow h.1 (h.ge hi) _, by rw [hm]; exact h.2.1, fun r hr => ?_⟩
  obtain ⟨k, hk, hkr⟩ := List.getElem_of_mem hr
  rw [List.length_set] at hk
  by_cases e : i = k
  · subst e
    rw [List.getElem_set_self] at hkr
    subst hkr
    obtain ⟨cs0, t, h1, h2, _⟩ := h.get hi
    exact ⟨h.ge hi, cs, t, row_put h1, hcs, hV⟩
  · rw [List.getElem_set_ne e] at hkr
    subst hkr
    obtain ⟨h1, c, t, h2, h3, h4⟩ := h.2.2 _ (List.getElem_mem hk)
    refine ⟨h1, c, t, row_put_other h2 (fun e2 => e ?_), h3, h4⟩
    have hi' : i < L.length := (List.getElem?_eq_some_iff.1 hi).1
    have hg : L[i].1 = g := by rw [(List.getElem?_eq_some_iff.1 hi).2]
    have hnd := h.2.1
    have := List.getElem_inj (xs := L.map (·.1)) (i := k) (j := i) (h₀ := by simpa using hk) (h₁ := by simpa using hi') hnd
    exact (this.1 (by simpa [hg] using e2)).symm
end

section
variable {P : Program} {o : Oper} {a : Act} {w b : World} {Q : Exit → Act → World → Prop} {V : Value → Prop} {d : Nat} {K : Act → World → Prop} {L : List (Nat × Nat × (Value → Prop))}
theorem op_ld_own (n : Nat) {ty : TypeId} (hT : RowT P ty n) (x : Operand) (ho : o.op = .load ty x) (hd : o.dst = some d) (g : Nat) (hx : a.eval x = .pointer (some ⟨g, 0, none⟩)) (h : Own b L w) (i : Nat) (hi : L[i]? = some (g, n, V))
    (hK : ∀ x w', V x → Below w.heap.size w w' → K (a.put (some d) x) w') : o.wp P a w K Q := by
  obtain ⟨cs, t, h1, h2, h3⟩ := h.get hi
  exact op_ld _ x ho hd g hx cs t h1 n hT h2 h3 hK
theorem st_own {ops : Array Oper} {rest : List Oper} (n : Nat) {ty : TypeId} (hT : RowT P ty n) (hgd : o.guard = none) (x y : Operand) (ho : o.op = .store ty x y) (hd : o.dst = none) (g : Nat) (v : Value) (hx : a.eval x = .pointer (some ⟨g, 0, none⟩)) (hy : a.eval y = v)
    {V' : Value → Prop} (hv : V' v) (hvc : ∀ v, V' v → ∃ cs, v = .agg cs ∧ cs.size = n ∧ cs.all (·.oneCell') = true) (h : Own b L w) (i : Nat) (hi : L[i]? = some (g, n, V))
    (hK : ∀ w', Own b (L.set i (g, n, V')) w' → w'.heap.size = w.heap.size → wpList P ops Q rest a w') : wpList P ops Q (o :: rest) a w := by
  obtain ⟨cs, rfl, h2, h3⟩ := hvc v hv
  obtain ⟨c0, t, e1, e2, _⟩ := h.get hi
  refine st_row hgd _ x y ho g _ hx hy t c0 e1 n hT h2 e2 h3 ?_
  rw [hd]
  exact hK _ (h.put hi cs h2 hv) (by simp [World.setRow])
end
theorem by_row {l : List Int} (h : l.length = 32) : ∀ x : Value, x = .agg (vals l) → ∃ cs, x = .agg cs ∧ cs.size = 32 ∧ cs.all (·.oneCell') = true :=
  fun x hx => ⟨vals l, hx, by rw [vals_size, h], vals_one l⟩
/-- A list that begins with a move. -/
theorem held_move {P : Program} {ops : Array Oper} {rest : List Oper} {o : Oper} {Q : Exit → Act → World → Prop} {a : Act} {w : World} (x : Operand) (_ : o.op = .move x) (h : Held (wpList P ops Q (o :: rest) a w)) : wpList P ops Q (o :: rest) a w := h
open Go.RowKit Nt

section
variable {b w : World} {L : List (Nat × Nat × (Value → Prop))}
theorem Own.cell (h : Own b L w) {i g n : Nat} {V V' : Value → Prop} (hi : L[i]? = some (g, n, V)) (k : Nat) (v : Value) (hV : ∀ cs : Array Value, cs.size = n → V (.agg cs) → V' (.agg (cs.setIfInBounds k v))) : Own b (L.set i (g, n, V')) (w.setCell ⟨g, k, none⟩ v) := by
  obtain ⟨cs, t, h1, h2, h3⟩ := h.get hi
  have hm : (L.set i (g, n, V')).map (·.1) = L.map (·.1) := (h.put hi (V' := V') (cs.setIfInBounds k v) (by simpa using h2) (hV cs h2 h3)).2.1 |> fun _ => by
    rw [List.map_set]
    refine List.ext_getElem? fun j => ?_
    rw [List.getElem?_set]
    split
    · rename_i e
      subst e
      have : i < (L.map (·.1)).length := by rw [List.length_map]; exact (List.getElem?_eq_some_iff.1 hi).1
      simp only [this, if_true]
      rw [List.getElem?_map, hi]; rfl
    · rfl
  refine ⟨h.1.setCell (h.ge hi) _, by rw [hm]; exact h.2.1, fun r hr => ?_⟩
  obtain ⟨j, hj, hjr⟩ := List.getElem_of_mem hr
  rw [List.length_set] at hj
  by_cases e : i = j
  · subst e
    rw [List.getElem_set_self] at hjr
    subst hjr
    exact ⟨h.ge hi, _, t, row_set h1, by simpa using h2, hV cs h2 h3⟩
  · rw [List.getElem_set_ne e] at hjr
    subst hjr
    obtain ⟨q1, c, t', q2, q3, q4⟩ := h.2.2 _ (List.getElem_mem hj)
    refine ⟨q1, c, t', row_set_other q2 (fun e2 => e ?_), q3, q4⟩
    have hi' : i < L.length := (List.getElem?_eq_some_iff.1 hi).1
    have hg : L[i].1 = g := by rw [(List.getElem?_eq_some_iff.1 hi).2]
    have hnd := h.2.1
    have := List.getElem_inj (xs := L.map (·.1)) (i := j) (j := i) (h₀ := by simpa using hj) (h₁ := by simpa using hi') hnd
    exact (this.1 (by simpa [hg] using e2)).symm
/-- .. by value. -/
theorem Own.byte (h : Own b L w) {i g n : Nat} {l : List Int} (hi : L[i]? = some (g, n, (· = .agg (vals l)))) (k : Nat) (x : Int) : Own b (L.set i (g, n, (· = .agg (vals (l.set k x))))) (w.setCell ⟨g, k, none⟩ (.int .u8 x)) :=
  h.cell hi k _ fun cs _ hcs => by
    injection hcs with hcs
    subst hcs
    exact congrArg Value.agg (vals_set l k x)
theorem Own.bytes (h : Own b L w) {i g n : Nat} {l : List Int} (hi : L[i]? = some (g, n, (· = .agg (vals l)))) : ∃ t, w.heap[g]? = some (.cells (vals l) t (0, 0)) := by
  obtain ⟨cs, t, h1, _, h3⟩ := h.get hi
  injection h3 with h3
  subst h3
  exact ⟨t, h1⟩
end

theorem nth_set_self (l : List Int) (k : Nat) (y : Int) (h : k < l.length) : nth (l.set k y) k = y := by simp [nth, h]
theorem byt_set {l : List Int} (hb : Byt l) (k : Nat) (y : Int) (hy : 0 ≤ y ∧ y < 256) : Byt (l.set k y) := by
  intro x hx
  rcases List.mem_or_eq_of_mem_set hx with h' | rfl
  · exact hb x h'
  · exact hy

section
variable {P : Program} {o : Oper} {a : Act} {w : World} {Q : Exit → Act → World → Prop} {d : Nat} {K : Act → World → Prop} {V : Value → Prop} {u v : Value}
theorem op_tup0 (x : Operand) (ho : o.op = .extract x 0) (hd : o.dst = some d) (hx : a.eval x = .tuple #[u, v]) (hV : V u)
    (hK : ∀ x w', V x → Below w.heap.size w w' → K (a.put (some d) x) w') : o.wp P a w K Q := by
  refine op_val u hd ?_ hV hK
  unfold execOp; rw [ho]
  show ((do let z ← Instr.extract (a.eval x) 0; pure (Next.value z)) : Sem Next).run P w = _
  rw [hx]; rfl
theorem op_tup1 (x : Operand) (ho : o.op = .extract x 1) (hd : o.dst = some d) (hx : a.eval x = .tuple #[u, v]) (hV : V v)
    (hK : ∀ x w', V x → Below w.heap.size w w' → K (a.put (some d) x) w') : o.wp P a w K Q := by
  refine op_val v hd ?_ hV hK
  unfold execOp; rw [ho]
  show ((do let z ← Instr.extract (a.eval x) 1; pure (Next.value z)) : Sem Next).run P w = _
  rw [hx]; rfl
end
end Go.Proofs.YtemkpihfenokmaaDoor
