/- Contracts of package field over values that are numbers (IsEl), for regions met operation by operation. -/
import Derived.Test.YtciakfhjjnmeeaaFieldM
import Derived.Test.YtciakfhjjnmeeaaOps3
namespace Go.Proofs.Ytciakfhjjnmeeaa
open Go.RowKit Nt

def IsEl (n : F) (x : Value) : Prop := ∃ z0 z1 z2 z3 z4, x = ev z0 z1 z2 z3 z4 ∧ El z0 z1 z2 z3 z4 n
/-- At block g lies an Elem of the number n. -/
def ElAt (n : F) (g : Nat) (w : World) : Prop := ∃ cs t, w.heap[g]? = some (.cells cs t (0, 0)) ∧ cs.size = 5 ∧ IsEl n (.agg cs)
theorem ElAt.keep {n : F} {g : Nat} {w w' : World} (h : ElAt n g w) (hb : Below w.heap.size w w') : ElAt n g w' := by
  obtain ⟨cs, t, h1, h2⟩ := h; exact ⟨cs, t, row_call hb h1, h2⟩
theorem ElAt.open {n : F} {g : Nat} {w : World} (h : ElAt n g w) : ∃ (z0 z1 z2 z3 z4 : Int) (t : TypeId), w.heap[g]? = some (.cells #[.int .u64 z0, .int .u64 z1, .int .u64 z2, .int .u64 z3, .int .u64 z4] t (0, 0)) ∧ El z0 z1 z2 z3 z4 n := by
  obtain ⟨cs, t, h1, _, z0, z1, z2, z3, z4, he, h3⟩ := h
  injection he with he
  subst he
  exact ⟨z0, z1, z2, z3, z4, t, h1, h3⟩
theorem ElAt.mk {n : F} {g : Nat} {w : World} {z0 z1 z2 z3 z4 : Int} {t : TypeId} (h : w.heap[g]? = some (.cells #[.int .u64 z0, .int .u64 z1, .int .u64 z2, .int .u64 z3, .int .u64 z4] t (0, 0))) (hz : El z0 z1 z2 z3 z4 n) : ElAt n g w :=
  ⟨_, t, h, rfl, z0, z1, z2, z3, z4, rfl, hz⟩
theorem ElAt.lt {n : F} {g : Nat} {w : World} (h : ElAt n g w) : g < w.heap.size := by
  obtain ⟨_, _, _, _, _, _, h, _⟩ := h.open; exact row_lt h
/-- An Elem that lies beneath a bound stays under whatever leaves what lies beneath it. -/
theorem ElAt.under {n : F} {g B : Nat} {w w' : World} (h : ElAt n g w) (hb : Below B w w') (hg : g < B) : ElAt n g w' := by
  obtain ⟨z0, z1, z2, z3, z4, t, h1, h2⟩ := h.open; exact .mk ((hb.block g hg).trans h1) h2
/-- At block g lie the bytes of the list. -/
def BytesAt (l : List Int) (g : Nat) (w : World) : Prop := ∃ t, w.heap[g]? = some (.cells (vals l) t (0, 0))
theorem BytesAt.keep {l : List Int} {g : Nat} {w w' : World} (h : BytesAt l g w) (hb : Below w.heap.size w w') : BytesAt l g w' := by
  obtain ⟨t, h1⟩ := h; exact ⟨t, row_call hb h1⟩
theorem ElAt.of_eq {n : F} {g : Nat} {w w' : World} (h : ElAt n g w) (e : w'.heap[g]? = w.heap[g]?) : ElAt n g w' := by
  obtain ⟨cs, t, h1, h2⟩ := h; exact ⟨cs, t, e.trans h1, h2⟩
theorem BytesAt.lt {l : List Int} {g : Nat} {w : World} (h : BytesAt l g w) : g < w.heap.size := by
  obtain ⟨t, h⟩ := h; exact row_lt h
theorem BytesAt.of_eq {l : List Int} {g : Nat} {w w' : World} (h : BytesAt l g w) (e : w'.heap[g]? = w.heap[g]?) : BytesAt l g w' := by
  obtain ⟨t, h1⟩ := h; exact ⟨t, e.trans h1⟩
theorem BytesAt.under {l : List Int} {g B : Nat} {w w' : World} (h : BytesAt l g w) (hb : Below B w w') (hg : g < B) : BytesAt l g w' := h.of_eq (hb.block g hg)
/-- A row of n cells, whatever is in it. -/
def RowAt (n g : Nat) (w : World) : Prop := ∃ cs t, w.heap[g]? = some (.cells cs t (0, 0)) ∧ cs.size = n
theorem RowAt.of_eq {n g : Nat} {w w' : World} (h : RowAt n g w) (e : w'.heap[g]? = w.heap[g]?) : RowAt n g w' := by
  obtain ⟨cs, t, h1, h2⟩ := h; exact ⟨cs, t, e.trans h1, h2⟩
theorem RowAt.keep {n g : Nat} {w w' : World} (h : RowAt n g w) (hb : Below w.heap.size w w') : RowAt n g w' := by
  obtain ⟨cs, t, h1, h2⟩ := h; exact ⟨cs, t, row_call hb h1, h2⟩
/-- What a store of a whole row leaves. -/
def Put (g : Nat) (w w' : World) : Prop := (∀ k, k ≠ g → w'.heap[k]? = w.heap[k]?) ∧ Below g w w'
theorem st_el {ops : Array Oper} {rest : List Oper} {o : Oper} {a : Act} {w : World} {Q : Exit → Act → World → Prop} {n : F} (hgd : o.guard = none) (x y : Operand) (ho : o.op = .store 26 x y) (hd : o.dst = none)
    (g : Nat) (v : Value) (hx : a.eval x = .pointer (some ⟨g, 0, none⟩)) (hy : a.eval y = v) (hv : IsEl n v) (hr : RowAt 5 g w)
    (h : ∀ w', ElAt n g w' → Put g w w' → wpList Try.prog ops Q rest a w') : wpList Try.prog ops Q (o :: rest) a w := by
  obtain ⟨z0, z1, z2, z3, z4, rfl, hz⟩ := hv
  obtain ⟨cs, t, h1, h2⟩ := hr
  refine st_row hgd _ x y ho g _ hx hy t cs h1 5 tElem rfl h2 (ev_one ..) ?_
  rw [hd]
  exact h _ (.mk (row_put h1) hz) ⟨fun k hk => setRow_other w g k _ hk, below_setRow (Below.refl _ _) (Nat.le_refl _) _⟩
theorem st_by {ops : Array Oper} {rest : List Oper} {o : Oper} {a : Act} {w : World} {Q : Exit → Act → World → Prop} {l : List Int} (hgd : o.guard = none) (x y : Operand) (ho : o.op = .store 22 x y) (hd : o.dst = none)
    (g : Nat) (v : Value) (hx : a.eval x = .pointer (some ⟨g, 0, none⟩)) (hy : a.eval y = v) (hv : v = .agg (vals l)) (hl : l.length = 32) (hr : RowAt 32 g w)
    (h : ∀ w', BytesAt l g w' → Put g w w' → wpList Try.prog ops Q rest a w') : wpList Try.prog ops Q (o :: rest) a w := by
  subst hv
  obtain ⟨cs, t, h1, h2⟩ := hr
  refine st_row hgd _ x y ho g _ hx hy t cs h1 32 tBytes (by rw [vals_size, hl]) h2 (vals_one _) ?_
  rw [hd]
  exact h _ ⟨t, row_put h1⟩ ⟨fun k hk => setRow_other w g k _ hk, below_setRow (Below.refl _ _) (Nat.le_refl _) _⟩
theorem op_ld_el {o : Oper} {a : Act} {w : World} {Q : Exit → Act → World → Prop} {n : F} {d : Nat} {K : Act → World → Prop} (x : Operand) (ho : o.op = .load 26 x) (hd : o.dst = some d)
    (g : Nat) (hx : a.eval x = .pointer (some ⟨g, 0, none⟩)) (h : ElAt n g w) (hK : ∀ x w', IsEl n x → Below w.heap.size w w' → K (a.put (some d) x) w') : o.wp Try.prog a w K Q := by
  obtain ⟨cs, t, h1, h2, h3⟩ := h
  exact op_ld (V := IsEl n) _ x ho hd g hx cs t h1 5 tElem h2 h3 hK
theorem op_ld_by {o : Oper} {a : Act} {w : World} {Q : Exit → Act → World → Prop} {l : List Int} {d : Nat} {K : Act → World → Prop} (x : Operand) (ho : o.op = .load 22 x) (hd : o.dst = some d)
    (g : Nat) (hx : a.eval x = .pointer (some ⟨g, 0, none⟩)) (h : BytesAt l g w) (hl : l.length = 32) (hK : ∀ x w', x = .agg (vals l) → Below w.heap.size w w' → K (a.put (some d) x) w') : o.wp Try.prog a w K Q := by
  obtain ⟨t, h1⟩ := h
  exact op_ld (V := (· = .agg (vals l))) _ x ho hd g hx (vals l) t h1 32 tBytes (by rw [vals_size, hl]) rfl hK

section
variable {x y : Value} {n m : F}
theorem add_el (hx : IsEl n x) (hy : IsEl m y) (w : World) : Calls Try.prog 30 #[x, y] w (Gives (IsEl (n + m)) w) := by
  obtain ⟨_, _, _, _, _, rfl, h1⟩ := hx; obtain ⟨_, _, _, _, _, rfl, h2⟩ := hy
  exact (add_any _ _ _ _ _ _ _ _ _ _ _ _ w h1 h2).mono fun _ _ ⟨z0, z1, z2, z3, z4, e1, e2, e3⟩ => ⟨_, e1, ⟨z0, z1, z2, z3, z4, rfl, e2⟩, e3⟩
theorem sub_el (hx : IsEl n x) (hy : IsEl m y) (w : World) : Calls Try.prog 31 #[x, y] w (Gives (IsEl (n - m)) w) := by
  obtain ⟨_, _, _, _, _, rfl, h1⟩ := hx; obtain ⟨_, _, _, _, _, rfl, h2⟩ := hy
  exact (sub_any _ _ _ _ _ _ _ _ _ _ _ _ w h1 h2).mono fun _ _ ⟨z0, z1, z2, z3, z4, e1, e2, e3⟩ => ⟨_, e1, ⟨z0, z1, z2, z3, z4, rfl, e2⟩, e3⟩
theorem mul_el (hx : IsEl n x) (hy : IsEl m y) (w : World) : Calls Try.prog 32 #[x, y] w (Gives (IsEl (n * m)) w) := by
  obtain ⟨_, _, _, _, _, rfl, h1⟩ := hx; obtain ⟨_, _, _, _, _, rfl, h2⟩ := hy
  exact (mul_any _ _ _ _ _ _ _ _ _ _ _ _ w h1 h2).mono fun _ _ ⟨z0, z1, z2, z3, z4, e1, e2, e3⟩ => ⟨_, e1, ⟨z0, z1, z2, z3, z4, rfl, e2⟩, e3⟩
theorem neg_el (hx : IsEl n x) (w : World) : Calls Try.prog 29 #[x] w (Gives (IsEl (0 - n)) w) := by
  obtain ⟨_, _, _, _, _, rfl, h1⟩ := hx
  exact (neg_any _ _ _ _ _ _ w h1).mono fun _ _ ⟨z0, z1, z2, z3, z4, e1, e2, e3⟩ => ⟨_, e1, ⟨z0, z1, z2, z3, z4, rfl, e2⟩, e3⟩
theorem square_el (hx : IsEl n x) (w : World) : Calls Try.prog 33 #[x] w (Gives (IsEl (n * n)) w) := by
  obtain ⟨_, _, _, _, _, rfl, h1⟩ := hx
  exact (square_any _ _ _ _ _ _ w h1).mono fun _ _ ⟨z0, z1, z2, z3, z4, e1, e2, e3⟩ => ⟨_, e1, ⟨z0, z1, z2, z3, z4, rfl, e2⟩, e3⟩
theorem small_ev (k : Nat) (h : k < 18446744073709551616) (w : World) : Calls Try.prog 22 #[.int .u64 k] w (Gives (IsEl (Fin.ofNat P k)) w) :=
  (small_lit k w h).mono fun _ _ ⟨z0, z1, z2, z3, z4, e1, e2, e3⟩ => ⟨_, e1, ⟨z0, z1, z2, z3, z4, rfl, e2⟩, e3⟩
theorem small_evl (k : Nat) (h : k < 18446744073709551616) (he : Fin.ofNat P k = n) (w : World) : Calls Try.prog 22 #[.int .u64 k] w (Gives (IsEl n) w) := by
  subst he; exact small_ev k h w
theorem of_el (l : List Int) (hl : l.length = 32) (hb : Byt l) (w : World) : Calls Try.prog 19 #[.agg (vals l)] w (Gives (IsEl (numF l)) w) :=
  (of_any l w hl hb).mono fun _ _ ⟨z0, z1, z2, z3, z4, e1, e2, e3⟩ => ⟨_, e1, ⟨z0, z1, z2, z3, z4, rfl, e2⟩, e3⟩
theorem bytes_el (hx : IsEl n x) (w : World) : Calls Try.prog 20 #[x] w (Gives (· = .agg (vals (bytesN n.val))) w) := by
  obtain ⟨_, _, _, _, _, rfl, h1⟩ := hx
  exact (bytes_any _ _ _ _ _ _ w h1).mono fun _ _ ⟨e1, e3⟩ => ⟨_, e1, rfl, e3⟩
theorem equal_el (hx : IsEl n x) (hy : IsEl m y) (w : World) : Calls Try.prog 25 #[x, y] w (Gives (· = .int .u64 (mk (decide (n = m)))) w) := by
  obtain ⟨_, _, _, _, _, rfl, h1⟩ := hx; obtain ⟨_, _, _, _, _, rfl, h2⟩ := hy
  exact (equal_any _ _ _ _ _ _ _ _ _ _ _ _ w h1 h2).mono fun _ _ ⟨e1, e3⟩ => ⟨_, e1, rfl, e3⟩
theorem zero_el (hx : IsEl n x) (w : World) : Calls Try.prog 28 #[x] w (Gives (· = .int .u64 (mk (decide (n = 0)))) w) := by
  obtain ⟨_, _, _, _, _, rfl, h1⟩ := hx
  exact (zero_any _ _ _ _ _ _ w h1).mono fun _ _ ⟨e1, e3⟩ => ⟨_, e1, rfl, e3⟩
theorem mbit_ev (b : Int) (h0 : 0 ≤ b) (h1 : b < 18446744073709551616) (w : World) : Calls Try.prog 75 #[.int .u64 b] w (Gives (· = .int .u64 (mk (decide (b % 2 = 1)))) w) :=
  (mbit_any b w h0 h1).mono fun _ _ ⟨e1, e3⟩ => ⟨_, e1, rfl, by subst e3; exact Below.refl _ _⟩
theorem pick_el (c : Bool) (hx : IsEl n x) (hy : IsEl m y) (w : World) : Calls Try.prog 39 #[.int .u64 (mk c), x, y] w (Gives (IsEl (selF c n m)) w) := by
  obtain ⟨_, _, _, _, _, rfl, h1⟩ := hx; obtain ⟨_, _, _, _, _, rfl, h2⟩ := hy
  exact (pick_any c (mk c) _ _ _ _ _ _ _ _ _ _ _ _ w (mk_range c) (by cases c <;> decide) h1 h2).mono fun _ _ ⟨z0, z1, z2, z3, z4, e1, e2, e3⟩ => ⟨_, e1, ⟨z0, z1, z2, z3, z4, rfl, e2⟩, e3⟩
theorem zero_el_yes (hx : IsEl n x) (h : n = 0) (w : World) : Calls Try.prog 28 #[x] w (Gives (· = .int .u64 18446744073709551615) w) := by
  obtain ⟨_, _, _, _, _, rfl, h1⟩ := hx
  exact (zero_yes _ _ _ _ _ _ w h1 h).mono fun _ _ ⟨e1, e3⟩ => ⟨_, e1, rfl, e3⟩
theorem one_el (hx : IsEl n x) (hy : IsEl m y) (h : n = m) (w : World) : Calls Try.prog 27 #[x, y] w (Gives (· = .bool true) w) := by
  obtain ⟨_, _, _, _, _, rfl, h1⟩ := hx; obtain ⟨_, _, _, _, _, rfl, h2⟩ := hy
  exact (one_yes _ _ _ _ _ _ _ _ _ _ _ _ w h1 h2 h).mono fun _ _ ⟨e1, e3⟩ => ⟨_, e1, rfl, e3⟩
theorem zero_el_no (hx : IsEl n x) (h : ¬ n = 0) (w : World) : Calls Try.prog 28 #[x] w (Gives (· = .int .u64 0) w) := by
  obtain ⟨_, _, _, _, _, rfl, h1⟩ := hx
  exact (zero_no _ _ _ _ _ _ w h1 h).mono fun _ _ ⟨e1, e3⟩ => ⟨_, e1, rfl, e3⟩
end
theorem eql_mk {p q : Operand} (c : Bool) (w : World) : (do eqGuard .eql 23 p q (.int .u64 (mk c)) (.int .u64 18446744073709551615); binOp .eql 23 (.int .u64 (mk c)) (.int .u64 18446744073709551615) : Sem Value).run Try.prog w = .ok (.bool c) w := by
  cases c <;> kernel_rfl
theorem neq_same {p q : Operand} (a b : Bool) (h : a = b) (w : World) : (do eqGuard .neq 4 p q (.bool a) (.bool b); binOp .neq 4 (.bool a) (.bool b) : Sem Value).run Try.prog w = .ok (.bool false) w := by
  subst h; cases a <;> kernel_rfl
end Go.Proofs.Ytciakfhjjnmeeaa
