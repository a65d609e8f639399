/- What trystref00.Apart keeps, in its three rounds. Plain: no program. -/
import Derived.Test.YtmochmpamgfboaaDoorApA
namespace Go.Proofs.YtmochmpamgfboaaDoor
open Go.RowKit
def pb (p : Option Addr) : Option Nat := p.map (·.block)
theorem pb_own (p : Option Addr) (n c : Nat) : (Value.slice p n c).ownBlock = pb p := by cases p <;> rfl
/-- The lists that Apart looks at: where each lies, its length and room. -/
structure Lists where
  n : Nat
  P : Nat → Option Addr
  ln : Nat → Nat
  C : Nat → Nat
def Lists.V (R : Lists) (j : Nat) : Value := .slice (R.P j) (R.ln j) (R.C j)
/-- No two of them lie in one block; each is short enough. -/
structure Lists.Fair (R : Lists) : Prop where
  few : R.n ≤ 1000
  short : ∀ j, j < R.n → R.ln j ≤ 1099511627776
  apart : ∀ i j, i < R.n → j < R.n → i ≠ j → pb (R.P i) = none ∨ pb (R.P i) ≠ pb (R.P j)
/-- The list of lists: its elements, in a block of its own, below S. -/
def Out (w : World) (p : Option Addr) (R : Lists) (S : Nat) : Prop := ∀ k, k < R.n → ∃ a, p = some a ∧ a.block < S ∧ S ≤ w.heap.size ∧ w.cell? (a.add k) = some (R.V k) ∧ ∀ j, j < R.n → pb (R.P j) ≠ some a.block
theorem Out.grown {w w' : World} {p : Option Addr} {R : Lists} {S : Nat} {row : Option Nat} (h : Out w p R S) (hg : w.grownBy w' row) (hne : ∀ x, row = some x → (∃ j, j < R.n ∧ pb (R.P j) = some x) ∨ S ≤ x) : Out w' p R S := fun k hk => by
  obtain ⟨a, e, h1, h2, h3, h4⟩ := h k hk
  refine ⟨a, e, h1, Nat.le_trans h2 hg.size, ?_, h4⟩
  have hb : some a.block ≠ row := fun e => by
    rcases hne _ e.symm with ⟨j, hj, e2⟩ | h5
    · exact h4 j hj e2
    · omega
  rw [← h3]
  exact World.cell?_of_block (by rw [add_block]; exact hg.block _ (Nat.lt_of_lt_of_le h1 h2) hb)
/-- The first round, at place m of list i. -/
structure Ph1 (b : World) (p : Option Addr) (R : Lists) (S : Nat) (w : World) (i m : Nat) : Prop where
  below : Below b.heap.size b w
  out : Out w p R S
  rows : ∀ j, j < R.n → ∃ l, l.length = R.ln j ∧ Bts w b.heap.size (R.V j) l ∧ (j < i → l = marks j (R.ln j)) ∧ (j = i → l.take m = marks i m)
theorem Ph1.under {b w w' : World} {p : Option Addr} {R : Lists} {S i m : Nat} (h : Ph1 b p R S w i m) (hb : Below w.heap.size w w') : Ph1 b p R S w' i m :=
  ⟨below_call hb h.below, h.out.grown (grown_of_below hb none) (fun x e => by cases e), fun j hj => by
    obtain ⟨l, h1, h2, h3⟩ := h.rows j hj
    exact ⟨l, h1, h2.under hb, h3⟩⟩
theorem Ph1.start {b w : World} {p : Option Addr} {R : Lists} {S : Nat} (hb : Below b.heap.size b w) (ho : Out w p R S) (hv : ∀ j, j < R.n → ∃ l, l.length = R.ln j ∧ Bts w b.heap.size (R.V j) l) : Ph1 b p R S w 0 0 :=
  ⟨hb, ho, fun j hj => by
    obtain ⟨l, h1, h2⟩ := hv j hj
    exact ⟨l, h1, h2, fun h => by omega, fun _ => rfl⟩⟩
theorem Ph1.next {b w : World} {p : Option Addr} {R : Lists} {S i : Nat} (h : Ph1 b p R S w i (R.ln i)) : Ph1 b p R S w (i + 1) 0 :=
  ⟨h.below, h.out, fun j hj => by
    obtain ⟨l, h1, h2, h3, h4⟩ := h.rows j hj
    refine ⟨l, h1, h2, fun hlt => ?_, fun _ => rfl⟩
    rcases Nat.lt_or_ge j i with h5 | h5
    · exact h3 h5
    · obtain rfl : j = i := by omega
      have := h4 rfl
      rwa [← h1, List.take_length, h1] at this⟩
theorem take_set_here {l : List Int} {m : Nat} {u : Int} {L : List Int} (hm : m < l.length) (h : l.take m = L) : (l.set m u).take (m + 1) = L ++ [u] := by
  rw [List.take_succ_eq_append_getElem (by simpa using hm), List.getElem_set_self, List.take_set_of_le (Nat.le_refl _), h]
/-- A mark is written. -/
theorem Ph1.mark {b w : World} {p : Option Addr} {R : Lists} {S i m : Nat} (hR : R.Fair) (h : Ph1 b p R S w i m) (hi : i < R.n) (hm : m < R.ln i) :
    ∃ g, R.P i = some ⟨g, 0, none⟩ ∧ R.ln i ≤ R.C i ∧ (∃ u, w.cell? ⟨g, m, none⟩ = some (.int .u8 u)) ∧ w.frozen? ⟨g, m, none⟩ = false ∧ Ph1 b p R S (w.setCell ⟨g, m, none⟩ (.int .u8 (mkB i m))) i (m + 1) := by
  obtain ⟨l, h1, h2, h3, h4⟩ := h.rows i hi
  obtain ⟨q, c, e, hbi, hpn, hbl, hlc, hcm⟩ := h2.open
  rw [Lists.V] at e h2
  injection e with e1 e2 e3
  obtain ⟨a, ea, _, hc⟩ := hbi m (by omega)
  rw [ea] at e1
  obtain ⟨g, o, s⟩ := a
  obtain ⟨_, e4, hB⟩ := hbl _ ea
  injection e4 with _ e5 e6
  subst e5; subst e6
  rw [add_lit] at hc
  rw [e1] at h2
  have hst := h2.stored m (mkB i m)
  have hbel : Below b.heap.size b (w.setCell ⟨g, m, none⟩ (.int .u8 (mkB i m))) := below_grown h.below h2 h.below.size hst.2
  refine ⟨g, e1, by omega, ⟨_, hc⟩, h2.free m, hbel, h.out.grown hst.2 (fun x e => ?_), fun j hj => ?_⟩
  · injection e with e
    exact .inl ⟨i, hi, by rw [e1, ← e]; rfl⟩
  · by_cases hji : j = i
    · subst hji
      refine ⟨l.set m (mkB j m), by rw [List.length_set, h1], ?_, fun h => by omega, fun _ => ?_⟩
      · rw [Lists.V, e1]; exact hst.1
      · rw [take_set_here (by omega) (h4 rfl), marks_succ]
    · obtain ⟨l2, k1, k2, k3, _⟩ := h.rows j hj
      refine ⟨l2, k1, k2.kept hst.2 ?_, k3, fun h => absurd h hji⟩
      rw [Lists.V, pb_own]
      rcases hR.apart j i hj hi hji with h5 | h5
      · exact .inl h5
      · rw [e1] at h5
        exact .inr h5
/-- The second round: i lists have been grown; those from t on are as they were. -/
structure Ph2 (b : World) (p : Option Addr) (R : Lists) (S : Nat) (w : World) (gv : Value) (rs : List Row1) (i t : Nat) : Prop where
  below : Below b.heap.size b w
  out : Out w p R S
  size : S ≤ w.heap.size
  todo : ∀ j, t ≤ j → j < R.n → Bts w b.heap.size (R.V j) (marks j (R.ln j))
  done : ∀ j, j < i → BytesIn w (R.P j) (marks j (R.ln j))
  own : RowsOwn w b.heap.size gv rs
  len : rs.length = i
  rows : ∀ (j : Nat) (r : Row1), rs[j]? = some r → r.2.2 = marks j (R.ln j + 70) ∧ (pb r.1 = pb (R.P j) ∨ ∃ x, pb r.1 = some x ∧ S ≤ x)
  far : ∀ x, gv.ownBlock = some x → S ≤ x
theorem Ph2.start {b w : World} {p : Option Addr} {R : Lists} {S : Nat} (hs : S ≤ w.heap.size) (h : Ph1 b p R S w R.n 0) : Ph2 b p R S w (.slice none 0 0) [] 0 0 :=
  ⟨h.below, h.out, hs, fun j _ hj => by
    obtain ⟨l, h1, h2, h3, _⟩ := h.rows j hj
    rw [h3 hj] at h2
    exact h2, fun j hj => by omega, rowsOwn_nil _ _, rfl, fun j r h => by simp at h, fun x h => by cases h⟩
theorem pb_some {p : Option Addr} {a : Addr} (h : p = some a) : pb p = some a.block := by rw [h]; rfl
theorem far_of {p : Option Addr} {row : Option Nat} (h : pb p = none ∨ pb p ≠ row) : ∀ a, p = some a → some a.block ≠ row := fun a ha e => by
  rw [pb_some ha] at h
  rcases h with h | h
  · cases h
  · exact h e
/-- .. list i is being grown: g is what it has grown to. -/
structure Grw (b : World) (R : Lists) (T : Nat) (w : World) (gv : Value) (rs : List Row1) (i : Nat) (g : Value) (k : Nat) : Prop where
  bts : Bts w b.heap.size g (marks i (R.ln i + k))
  here : BytesIn w (R.P i) (marks i (R.ln i))
  head : ∀ a, R.P i = some a → a = ⟨a.block, 0, none⟩
  blk : g.ownBlock = pb (R.P i) ∨ ∃ x, g.ownBlock = some x ∧ T ≤ x
theorem Ph2.grw {b w : World} {p : Option Addr} {R : Lists} {S : Nat} {gv : Value} {rs : List Row1} {i : Nat} (h : Ph2 b p R S w gv rs i i) (hi : i < R.n) (T : Nat) :
    Ph2 b p R S w gv rs i (i + 1) ∧ Grw b R T w gv rs i (R.V i) 0 := by
  have h1 := h.todo i (Nat.le_refl _) hi
  refine ⟨⟨h.below, h.out, h.size, fun j hj => h.todo j (by omega), h.done, h.own, h.len, h.rows, h.far⟩, h1, h1.bytesIn, fun a ha => ?_, .inl (pb_own ..)⟩
  obtain ⟨q, c, e, _, _, h2, _⟩ := h1.open
  rw [Lists.V] at e
  injection e with e1 _ _
  exact (h2 a (e1 ▸ ha)).2.1
theorem Ph2.grown {b w w' : World} {p : Option Addr} {R : Lists} {S T : Nat} {gv : Value} {rs : List Row1} {i : Nat} {row : Option Nat} (hR : R.Fair) (h : Ph2 b p R S w gv rs i (i + 1)) (hi : i < R.n) (hST : S ≤ T) (hS : ∀ j, j < R.n → ∀ x, pb (R.P j) = some x → x < S)
    (hT : ∀ x, gv.ownBlock = some x → x < T) (hT2 : ∀ r : Row1, r ∈ rs → ∀ x, pb r.1 = some x → x < T) (hg : w.grownBy w' row) (hbe : Below b.heap.size b w') (hrow : row = none ∨ row = pb (R.P i) ∨ ∃ x, row = some x ∧ T ≤ x) : Ph2 b p R S w' gv rs i (i + 1) := by
  have hj : ∀ j, j < R.n → j ≠ i → pb (R.P j) = none ∨ pb (R.P j) ≠ row := fun j hj hne => by
    rcases hrow with rfl | rfl | ⟨x, rfl, hx⟩
    · cases pb (R.P j) <;> simp
    · exact hR.apart j i hj hi hne
    · exact .inr fun e => by have := hS j hj x e; omega
  have hgv : gv.ownBlock = none ∨ gv.ownBlock ≠ row := by
    rcases hrow with rfl | rfl | ⟨x, rfl, hx⟩
    · cases gv.ownBlock <;> simp
    · cases e : gv.ownBlock with
      | none => exact .inl rfl
      | some y => exact .inr fun e2 => by have h1 := h.far y e; have h2 := hS i hi y e2.symm; omega
    · exact .inr fun e => by have := hT x e; omega
  have hrs : ∀ (j : Nat) (r : Row1), rs[j]? = some r → pb r.1 = none ∨ pb r.1 ≠ row := fun j r hr => by
    have hjl : j < i := by rw [← h.len]; exact (List.getElem?_eq_some_iff.1 hr).1
    rcases (h.rows j r hr).2 with e | ⟨x, e, hx⟩
    · rw [e]; exact hj j (by omega) (by omega)
    · rcases hrow with rfl | rfl | ⟨y, rfl, hy⟩
      · exact .inr (by rw [e]; simp)
      · exact .inr fun e2 => by rw [e] at e2; have := hS i hi x e2.symm; omega
      · exact .inr fun e2 => by have := hT2 r (List.mem_of_getElem? hr) y e2; omega
  refine ⟨hbe, h.out.grown hg (fun x e => ?_), Nat.le_trans h.size hg.size, fun j h1 h2 => (h.todo j h1 h2).kept hg ?_, fun j h1 => (h.done j h1).far hg (far_of (hj j (by omega) (by omega))), ⟨World.ownsRow.kept h.own.1 hg hgv, fun r hr => ?_⟩, h.len, h.rows, h.far⟩
  · rcases hrow with rfl | rfl | ⟨y, rfl, hy⟩
    · cases e
    · exact .inl ⟨i, hi, e⟩
    · injection e with e; exact .inr (by omega)
  · rw [Lists.V, pb_own]; exact hj j h2 (by omega)
  · obtain ⟨j, hj2⟩ := List.mem_iff_getElem?.1 hr
    exact ⟨(h.own.2 r hr).1.far hg (far_of (hrs j r hj2)), (h.own.2 r hr).2⟩
/-- A mark is appended. -/
theorem Grw.step {b w w' : World} {R : Lists} {T : Nat} {gv g g' : Value} {rs : List Row1} {i k : Nat} (h : Grw b R T w gv rs i g k) (hT : T ≤ w.heap.size) (hP : ∀ x, pb (R.P i) = some x → x < T) (hb : Bts w' b.heap.size g' (marks i (R.ln i + k) ++ [mkB i (R.ln i + k)]))
    (hw : g'.ownBlock = g.ownBlock ∧ w.grownBy w' g.ownBlock ∨ (∃ x, g'.ownBlock = some x ∧ w.heap.size ≤ x) ∧ w.grownBy w' none) : Grw b R T w' gv rs i g' (k + 1) := by
  rw [marks_succ] at hb
  refine ⟨hb, ?_, h.head, ?_⟩
  · rcases hw with ⟨e, hg⟩ | ⟨_, hg⟩
    · rcases h.blk with e2 | ⟨x, e2, hx⟩
      · -- grown where it lies
        obtain ⟨q, c, e3, h1, h2, h3, _⟩ := hb.open
        intro m hm
        rw [marks_len] at hm
        obtain ⟨a, ea, h4, h5⟩ := h1 m (by rw [marks_len]; omega)
        obtain ⟨a0, ea0, h40, h50⟩ := h.here m (by rw [marks_len]; exact hm)
        have hq := h3 a ea
        have e4 : some a.block = some a0.block := by rw [← hq.1, e, e2, ea0]; rfl
        injection e4 with e4
        have hoff := h.head a0 ea0
        refine ⟨a0, ea0, by rw [← e4]; exact h4, ?_⟩
        rw [hoff, ← e4, ← hq.2.1, h5, marks_nth (by omega), marks_nth hm]
      · exact h.here.far hg (fun a ha e3 => by
        rw [e2] at e3
        have := hP x (by rw [pb_some ha]; exact e3)
        omega)
    · exact h.here.far hg (fun _ _ e => by cases e)
  · rcases hw with ⟨e, _⟩ | ⟨⟨x, e, hx⟩, _⟩
    · rw [e]; exact h.blk
    · exact .inr ⟨x, e, by omega⟩
end Go.Proofs.YtmochmpamgfboaaDoor
