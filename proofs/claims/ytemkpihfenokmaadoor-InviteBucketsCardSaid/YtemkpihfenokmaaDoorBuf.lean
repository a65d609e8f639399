/- Slices that the call owns, as lists of bytes or of slices of bytes: append as a law. -/
import Derived.Test.YtemkpihfenokmaaDoorCodD
import Derived.Maps.AppendAt
import Derived.OwnWalk
import Derived.Below
namespace Go.Proofs.YtemkpihfenokmaaDoor
open Go.RowKit
/-- The bytes l lie in v, a slice at the head of a block not below B (or nil). -/
def Bts (w : World) (B : Nat) (v : Value) (l : List Int) : Prop := w.ownsRow B 5 1 v l.length (l.map (Value.int .u8))
/-- What a call hands back: bytes in memory of its own. -/
def NewV (w : World) (l : List Int) (e : Ending) (w' : World) : Prop := Below w.heap.size w w' ∧ ∃ v, e = .returned v ∧ Bts w' w.heap.size v l
theorem bts_nil (w : World) (B : Nat) : Bts w B (.slice none 0 0) [] := World.ownsRow_nil w B _ 1
theorem Bts.open {w : World} {B : Nat} {v : Value} {l : List Int} (h : Bts w B v l) : ∃ p c, v = .slice p l.length c ∧ BytesIn w p l ∧ (p = none → c = 0) ∧ (∀ a, p = some a → v.ownBlock = some a.block ∧ a = ⟨a.block, 0, none⟩ ∧ B ≤ a.block) ∧ l.length ≤ c ∧ c ≤ maxLen := by
  rcases h.2 with ⟨rfl, h0⟩ | ⟨g, c, cur, rfl, hb, hg, hnc, hcm, hcs, htk⟩
  · obtain rfl : l = [] := List.eq_nil_of_length_eq_zero h0
    exact ⟨none, 0, rfl, fun i hi => by simp at hi, fun _ => rfl, fun a h => (by cases h), Nat.le_refl _, Nat.zero_le _⟩
  · refine ⟨_, c, rfl, BytesIn.row 0 hg ?_, fun h => (by cases h), fun a h => ?_, hnc, hcm⟩
    · rw [List.drop_zero, ← htk, Nat.mul_one]
    · injection h with h; subst h; exact ⟨rfl, rfl, hb⟩
theorem Bts.bytesIn {w : World} {B : Nat} {p : Option Addr} {n c : Nat} {l : List Int} (h : Bts w B (.slice p n c) l) : BytesIn w p l := by
  obtain ⟨_, _, e, h1, _⟩ := h.open
  injection e with e1 e2 e3
  subst e1
  exact h1
theorem Bts.kept {w w' : World} {B : Nat} {v : Value} {l : List Int} {row : Option Nat} (h : Bts w B v l) (hg : w.grownBy w' row) (hne : v.ownBlock = none ∨ v.ownBlock ≠ row) : Bts w' B v l := World.ownsRow.kept h hg hne
theorem grown_of_below {w w' : World} (h : Below w.heap.size w w') (row : Option Nat) : w.grownBy w' row := ⟨h.os, h.tape, h.output, h.size, fun k hk _ => h.block k hk⟩
theorem Bts.under {w w' : World} {B : Nat} {v : Value} {l : List Int} (h : Bts w B v l) (hb : Below w.heap.size w w') : Bts w' B v l :=
  h.kept (grown_of_below hb none) (by cases v.ownBlock <;> simp)
theorem Bts.low {w : World} {B B' : Nat} {v : Value} {l : List Int} (h : Bts w B v l) (hB : B' ≤ B) : Bts w B' v l := by
  refine ⟨h.1, ?_⟩
  rcases h.2 with h' | ⟨g, c, cur, e, hb, r⟩
  · exact .inl h'
  · exact .inr ⟨g, c, cur, e, Nat.le_trans hB hb, r⟩
theorem Bts.lt {w : World} {B : Nat} {v : Value} {l : List Int} (h : Bts w B v l) : ∀ k, v.ownBlock = some k → B ≤ k ∧ k < w.heap.size := World.ownsRow.lt h
theorem Bts.row {w : World} {B : Nat} {g c : Nat} {cur : Array Value} {l : List Int} (hg : w.heap[g]? = some (.cells cur 5 (0, 0))) (hB : B ≤ g) (hc : l.length ≤ c) (hm : c ≤ maxLen) (hs : cur.size = c) (ht : cur.toList.take l.length = l.map (Value.int .u8)) : Bts w B (.slice (some ⟨g, 0, none⟩) l.length c) l :=
  ⟨by simp, .inr ⟨g, c, cur, rfl, hB, hg, hc, hm, by omega, by rw [Nat.mul_one]; exact ht⟩⟩
theorem bytesIn_nil (w : World) (p : Option Addr) : BytesIn w p [] := fun i hi => by simp at hi
theorem BytesIn.drew {w : World} {p : Option Addr} {l : List Int} (h : BytesIn w p l) : BytesIn w.drew p l := h
/-- Bytes that lie elsewhere stay, whatever a slice of one's own grows by. -/
theorem BytesIn.far {w w' : World} {p : Option Addr} {l : List Int} {row : Option Nat} (h : BytesIn w p l) (hg : w.grownBy w' row) (hne : ∀ a, p = some a → some a.block ≠ row) : BytesIn w' p l := fun i hi => by
  obtain ⟨a, rfl, h1, h2⟩ := h i hi
  exact ⟨a, rfl, Nat.lt_of_lt_of_le h1 hg.size, hg.cell h2 (by rw [add_block]; exact hne a rfl)⟩
theorem u8_info : ∃ i, Tryd.prog.info? 5 = some i ∧ i.zero = some (.int .u8 0) ∧ i.size = 1 ∧ i.bytes = 1 := by
  obtain ⟨ie, hie, hsz⟩ := Option.map_eq_some_iff.1 (show (Tryd.prog.info? 5).map (fun i => (i.zero, i.size, i.bytes)) = some (some (.int .u8 0), 1, 1) by kernel_rfl)
  exact ⟨ie, hie, by simpa using hsz⟩
/-- append onto bytes of one's own. -/
theorem run_app {w : World} {B : Nat} {v : Value} {l l2 : List Int} (ty : TypeId) {p : Option Addr} {m c : Nat} (hv : Bts w B v l) (hm : l2.length = m) (h2 : BytesIn w p l2) (hn : p = none → c = 0) (hB : B ≤ w.heap.size) (hbig : l.length + m ≤ 140737488355328) :
    ∃ v' w', (Builtin.append_ #[30, 30] ty #[v, .slice p m c]).run Tryd.prog w = .ok v' w' ∧ Bts w' B v' (l ++ l2) ∧ w.grownBy w' v.ownBlock ∧ (v'.ownBlock = v.ownBlock ∨ v'.ownBlock = some w.heap.size) := by
  obtain ⟨ie, hie, hz, hs, hb⟩ := u8_info
  cases p with
  | none =>
    obtain rfl := hn rfl
    have : m = 0 := by
      rcases Nat.eq_zero_or_pos m with h | h
      · exact h
      · obtain ⟨a, e, _⟩ := h2 0 (by omega)
        cases e
    subst this
    obtain rfl : l2 = [] := List.eq_nil_of_length_eq_zero hm
    exact ⟨v, w, run_append_owned_none (P := Tryd.prog) w B _ ty _ ie 1 Tryd.underlying30 hie v _ _ hv, by rw [List.append_nil]; exact hv, ⟨rfl, rfl, rfl, Nat.le_refl _, fun _ _ _ => rfl⟩, .inl rfl⟩
  | some a =>
    obtain ⟨v', w', h3, h4, h5, _, h6⟩ := run_append_own_at (P := Tryd.prog) w B 30 ty 5 ie (.int .u8 0) 1 1 Tryd.underlying30 hie hz hs hb rfl (by decide) v l.length _ hv a m c (l2.map (Value.int .u8)) (by simp [hm]) h2.src (by simp [Value.oneCell']) (by simp only [maxLen]; omega) (by omega) hB
    refine ⟨v', w', h3, ?_, h5, h6⟩
    rw [Bts, List.length_append, hm, List.map_append]
    exact h4
section
variable {o : Oper} {w : World} {a : Act} {Q : Exit → Act → World → Prop} {ops : Array Oper} {rest : List Oper}
theorem wpList_app {B : Nat} {v : Value} {l : List Int} (l2 : List Int) (x y : Operand) (hgd : o.guard = none) (ho : o.op = .call { callee := .builtin .append, args := #[x, y], argTypes := #[30, 30] }) {p : Option Addr} {m c : Nat} (hx : a.eval x = v) (hy : a.eval y = .slice p m c)
    (hv : Bts w B v l) (hm : l2.length = m) (h2 : BytesIn w p l2) (hn : p = none → c = 0) (hB : B ≤ w.heap.size) (hbig : l.length + m ≤ 140737488355328)
    (hK : ∀ v' w', Bts w' B v' (l ++ l2) → w.grownBy w' v.ownBlock → (v'.ownBlock = v.ownBlock ∨ v'.ownBlock = some w.heap.size) → wpList Tryd.prog ops Q rest (a.put o.dst v') w') : wpList Tryd.prog ops Q (o :: rest) a w := by
  obtain ⟨v', w', h3, h4, h5, h6⟩ := run_app o.type hv hm h2 hn hB hbig
  exact wpList_step fun K hKK => if_always hgd (wp_append_run x y _ ho hx hy h3 (hKK _ _ (hK v' w' h4 h5 h6)))
theorem held_append {P : Program} {ops : Array Oper} {rest : List Oper} {o : Oper} {Q : Exit → Act → World → Prop} {a : Act} {w : World} (args : Array Operand) (tys : Array TypeId) (_ : o.op = .call { callee := .builtin .append, args := args, argTypes := tys }) (h : Held (wpList P ops Q (o :: rest) a w)) : wpList P ops Q (o :: rest) a w := h
end
/-- .. of one byte, laid just before. -/
theorem bytesIn_one (w : World) (x : Int) : BytesIn (w.alloc (.cells #[.int .u8 x] 5)) (some ⟨w.heap.size, 0, none⟩) [x] := BytesIn.row 0 (heap_alloc_new w _) rfl
theorem below_grown {B : Nat} {b w w' : World} {v : Value} {l : List Int} (h : Below B b w) (hb : Bts w B v l) (hB : B ≤ w.heap.size) (hg : w.grownBy w' v.ownBlock) : Below B b w' := h.grown hg hB fun k hk => (hb.lt k hk).1
theorem Bts.alloc {w : World} {B : Nat} {v : Value} {l : List Int} (h : Bts w B v l) (o : Obj) : Bts (w.alloc o) B v l := World.ownsRow.alloc h o
section
variable {o : Oper} {w b : World} {a : Act} {Q : Exit → Act → World → Prop} {ops : Array Oper} {rest : List Oper}
/-- append(v, x), the literal laid just before. -/
theorem wpList_app1 {v : Value} {l : List Int} {u : Int} (x y : Operand) (hgd : o.guard = none) (ho : o.op = .call { callee := .builtin .append, args := #[x, y], argTypes := #[30, 30] }) (hx : a.eval x = v) (hy : a.eval y = .slice (some ⟨w.heap.size, 0, none⟩) 1 1)
    (h : Below b.heap.size b w) (hv : Bts w b.heap.size v l) (hbig : l.length + 1 ≤ 140737488355328)
    (hK : ∀ v' w', Bts w' b.heap.size v' (l ++ [u]) → Below b.heap.size b w' → w.grownBy w' v.ownBlock → (v'.ownBlock = v.ownBlock ∨ ∃ k, v'.ownBlock = some k ∧ w.heap.size ≤ k) → wpList Tryd.prog ops Q rest (a.put o.dst v') w') : wpList Tryd.prog ops Q (o :: rest) a (w.alloc (.cells #[.int .u8 u] 5)) := by
  have hs : w.heap.size ≤ (w.alloc (.cells #[.int .u8 u] 5)).heap.size := by simp
  refine wpList_app [u] x y hgd ho hx hy (hv.alloc _) rfl (bytesIn_one w u) (fun h => by cases h) (Nat.le_trans h.size hs) hbig fun v' w' h1 h2 h3 => hK v' w' h1 (below_grown (h.alloc h.size _) (hv.alloc _) (Nat.le_trans h.size hs) h2) ?_ ?_
  · exact ⟨h2.os, h2.tape, h2.output, Nat.le_trans hs h2.size, fun k hk hne => (h2.block k (Nat.lt_of_lt_of_le hk hs) hne).trans (Below.heap_alloc w _ k hk)⟩
  · rcases h3 with h3 | h3
    · exact .inl h3
    · exact .inr ⟨_, h3, hs⟩
/-- append(v, p...) -/
theorem wpList_appB {v : Value} {l : List Int} (l2 : List Int) (x y : Operand) (hgd : o.guard = none) (ho : o.op = .call { callee := .builtin .append, args := #[x, y], argTypes := #[30, 30] }) {p : Option Addr} {m c : Nat} (hx : a.eval x = v) (hy : a.eval y = .slice p m c)
    (h : Below b.heap.size b w) (hv : Bts w b.heap.size v l) (hm : l2.length = m) (h2 : BytesIn w p l2) (hn : p = none → c = 0) (hbig : l.length + m ≤ 140737488355328)
    (hK : ∀ v' w', Bts w' b.heap.size v' (l ++ l2) → Below b.heap.size b w' → w.grownBy w' v.ownBlock → (v'.ownBlock = v.ownBlock ∨ ∃ k, v'.ownBlock = some k ∧ w.heap.size ≤ k) → wpList Tryd.prog ops Q rest (a.put o.dst v') w') : wpList Tryd.prog ops Q (o :: rest) a w :=
  wpList_app l2 x y hgd ho hx hy hv hm h2 hn h.size hbig fun v' w' h1 h2 h3 => hK v' w' h1 (below_grown h hv h.size h2) h2 (h3.imp id fun e => ⟨_, e, Nat.le_refl _⟩)
end
end Go.Proofs.YtemkpihfenokmaaDoor
