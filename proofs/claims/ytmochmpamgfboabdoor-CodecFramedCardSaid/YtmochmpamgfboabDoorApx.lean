/- trystref00.mark; a byte written into bytes of the call's own; append tells whether the old row stays. No condition. What trystref00.Apart keeps, in its three rounds. Plain: no program. trystref00.Apart: lists in blocks of their own share no memory. Conditions: at most 1000 lists, each of at most 2^40 bytes. -/
import Derived.Test.YtmochmpamgfboabDoorRowB
namespace Go.Proofs.YtmochmpamgfboabDoor
open Go.RowKit
/-- The mark of list i at place k. -/
def mkB (i k : Nat) : Int := IntKind.u8.wrap ((i : Int) * 31 + (k : Int) * 7 + 1)
def marks (i n : Nat) : List Int := (List.range n).map (mkB i)
theorem marks_len (i n : Nat) : (marks i n).length = n := by simp [marks]
theorem marks_nth {i n k : Nat} (h : k < n) : nth (marks i n) k = mkB i k := by simp [marks, nth, List.getD_eq_getElem?_getD, h]
theorem marks_succ (i n : Nat) : marks i n ++ [mkB i n] = marks i (n + 1) := by simp [marks, List.range_succ]
theorem marks_take {i n k : Nat} (h : k ≤ n) : (marks i n).take k = marks i k := by
  rw [marks, marks, ← List.map_take, List.take_range, Nat.min_eq_left h]
/-- A byte is written. -/
theorem Bts.stored {w : World} {B g n c : Nat} {l : List Int} (h : Bts w B (.slice (some ⟨g, 0, none⟩) n c) l) (k : Nat) (u : Int) :
    Bts (w.setCell ⟨g, k, none⟩ (.int .u8 u)) B (.slice (some ⟨g, 0, none⟩) n c) (l.set k u) ∧ w.grownBy (w.setCell ⟨g, k, none⟩ (.int .u8 u)) (some g) := by
  obtain ⟨_, _, e, _⟩ := h.open
  injection e with e1 e2 e3
  subst e2
  have h1 := World.ownsRow.stored h k (.int .u8 u)
  refine ⟨?_, h1.2⟩
  rw [Bts, List.length_set, List.map_set]
  exact h1.1
theorem Bts.free {w : World} {B g n c : Nat} {l : List Int} (h : Bts w B (.slice (some ⟨g, 0, none⟩) n c) l) (k : Nat) : w.frozen? ⟨g, k, none⟩ = false := by
  obtain ⟨_, _, e, _⟩ := h.open
  injection e with e1 e2 e3
  subst e2
  exact World.ownsRow.frozenAt h k
/-- .. or a row that is full and bears the run-time's mark behind its last cell (a constant string's bytes). -/
def BtsM (w : World) (B : Nat) (v : Value) (l : List Int) : Prop := Bts w B v l ∨ ∃ g, v = .slice (some ⟨g, 0, none⟩) l.length l.length ∧ B ≤ g ∧ w.heap[g]? = some (.cells (vals l) 5 (l.length, l.length + 1)) ∧ l.length ≤ maxLen
/-- What a call hands back: bytes in memory of its own, marked or not. -/
def NewM (w : World) (l : List Int) (e : Ending) (w' : World) : Prop := Below w.heap.size w w' ∧ ∃ v, e = .returned v ∧ BtsM w' w.heap.size v l
theorem marked_cell {w : World} {g : Nat} {l : List Int} {t : TypeId} {fr : Nat × Nat} (h : w.heap[g]? = some (.cells (vals l) t fr)) : BytesIn w (some ⟨g, 0, none⟩) l := fun i hi => by
  refine ⟨_, rfl, (Array.getElem?_eq_some_iff.1 h).1, ?_⟩
  rw [add_lit]
  simp [World.cell?, h, vals_get hi]
theorem BtsM.open {w : World} {B : Nat} {v : Value} {l : List Int} (h : BtsM w B v l) : ∃ p c, v = .slice p l.length c ∧ BytesIn w p l ∧ (p = none → c = 0) ∧ (∀ a, p = some a → v.ownBlock = some a.block ∧ a = ⟨a.block, 0, none⟩ ∧ B ≤ a.block) ∧ l.length ≤ c ∧ c ≤ maxLen := by
  rcases h with h | ⟨g, rfl, hB, hg, hm⟩
  · exact h.open
  · refine ⟨_, _, rfl, marked_cell hg, fun h => (by cases h), fun a h => ?_, Nat.le_refl _, hm⟩
    injection h with h
    subst h
    exact ⟨rfl, rfl, hB⟩
theorem BtsM.bytesIn {w : World} {B : Nat} {p : Option Addr} {n c : Nat} {l : List Int} (h : BtsM w B (.slice p n c) l) : BytesIn w p l := by
  obtain ⟨_, _, e, h1, _⟩ := h.open
  injection e with e1 e2 e3
  subst e1
  exact h1
theorem BtsM.lt {w : World} {B : Nat} {v : Value} {l : List Int} (h : BtsM w B v l) : ∀ k, v.ownBlock = some k → B ≤ k ∧ k < w.heap.size := by
  rcases h with h | ⟨g, rfl, hB, hg, hm⟩
  · exact h.lt
  · intro k hk
    injection hk with hk
    subst hk
    exact ⟨hB, (Array.getElem?_eq_some_iff.1 hg).1⟩
theorem BtsM.kept {w w' : World} {B : Nat} {v : Value} {l : List Int} {row : Option Nat} (h : BtsM w B v l) (hg : w.grownBy w' row) (hne : v.ownBlock = none ∨ v.ownBlock ≠ row) : BtsM w' B v l := by
  rcases h with h | ⟨g, rfl, hB, hg2, hm⟩
  · exact .inl (h.kept hg hne)
  · refine .inr ⟨g, rfl, hB, ?_, hm⟩
    rw [hg.block g (Array.getElem?_eq_some_iff.1 hg2).1 (fun e => ?_), hg2]
    rcases hne with hne | hne
    · cases hne
    · exact hne e
theorem BtsM.under {w w' : World} {B : Nat} {v : Value} {l : List Int} (h : BtsM w B v l) (hb : Below w.heap.size w w') : BtsM w' B v l :=
  h.kept (grown_of_below hb none) (by cases v.ownBlock <;> simp)
theorem BtsM.alloc {w : World} {B : Nat} {v : Value} {l : List Int} (h : BtsM w B v l) (o : Obj) : BtsM (w.alloc o) B v l := h.under ((Below.refl _ _).alloc (Nat.le_refl _) _)
theorem BtsM.low {w : World} {B B' : Nat} {v : Value} {l : List Int} (h : BtsM w B v l) (hB : B' ≤ B) : BtsM w B' v l := by
  rcases h with h | ⟨g, e, hb, r⟩
  · exact .inl (h.low hB)
  · exact .inr ⟨g, e, Nat.le_trans hB hb, r⟩
theorem BtsM.stored {w : World} {B g n c : Nat} {l : List Int} (h : BtsM w B (.slice (some ⟨g, 0, none⟩) n c) l) (k : Nat) (u : Int) :
    BtsM (w.setCell ⟨g, k, none⟩ (.int .u8 u)) B (.slice (some ⟨g, 0, none⟩) n c) (l.set k u) ∧ w.grownBy (w.setCell ⟨g, k, none⟩ (.int .u8 u)) (some g) := by
  have hgr : w.grownBy (w.setCell ⟨g, k, none⟩ (.int .u8 u)) (some g) := ⟨rfl, rfl, rfl, by simp, fun j _ hj => heap_setCell_other w ⟨g, k, none⟩ j _ (fun e => hj (by simp [e]))⟩
  rcases h with h | ⟨g', e, hB, hg, hm⟩
  · exact ⟨.inl (h.stored k u).1, hgr⟩
  · injection e with e1 e2 e3
    injection e1 with e1
    injection e1 with e1
    subst e1; subst e2; subst e3
    refine ⟨.inr ⟨g, by rw [List.length_set], hB, ?_, by rw [List.length_set]; exact hm⟩, hgr⟩
    rw [List.length_set]
    have hlt := (Array.getElem?_eq_some_iff.1 hg).1
    have hv := (Array.getElem?_eq_some_iff.1 hg).2
    show (w.heap.modify g _)[g]? = _
    rw [Array.getElem?_eq_getElem (by simpa using hlt), Array.getElem_modify_self, hv]
    have e2 : (vals l).setIfInBounds k (.int .u8 u) = vals (l.set k u) := by
      apply Array.ext'
      simp [vals, List.map_set]
    rw [← e2]
    rfl
theorem BtsM.free {w : World} {B g n c : Nat} {l : List Int} (h : BtsM w B (.slice (some ⟨g, 0, none⟩) n c) l) (k : Nat) (hk : k < l.length) : w.frozen? ⟨g, k, none⟩ = false := by
  rcases h with h | ⟨g', e, hB, hg, hm⟩
  · exact h.free k
  · injection e with e1 e2 e3
    injection e1 with e1
    injection e1 with e1
    subst e1
    simp only [World.frozen?, hg]
    simp
    omega
theorem BtsM.el {w : World} {B : Nat} {v : Value} {l : List Int} (h : BtsM w B v l) : ∃ p c, v = .slice p l.length c ∧ El1 w (p, c, l) ∧ ∀ a, p = some a → v.ownBlock = some a.block := by
  obtain ⟨p, c, rfl, h1, h2, h3, _⟩ := h.open
  exact ⟨p, c, rfl, ⟨h1, h2, fun a ha => (h.lt _ (h3 a ha).1).2⟩, fun a ha => (h3 a ha).1⟩
theorem belowM_grown {B : Nat} {b w w' : World} {v : Value} {l : List Int} (h : Below B b w) (hb : BtsM w B v l) (hB : B ≤ w.heap.size) (hg : w.grownBy w' v.ownBlock) : Below B b w' := h.grown hg hB fun k hk => (hb.lt k hk).1
/-- Where bytes that grow lie: in the old row, or the old row stays. -/
theorem run_app_where {w w' : World} {B : Nat} {v v' : Value} {l l2 : List Int} (ty : TypeId) {a : Addr} {m c : Nat} (h0 : 0 < m) (hv : Bts w B v l) (hm : l2.length = m) (h2 : BytesIn w (some a) l2) (hbig : l.length + m ≤ 140737488355328)
    (hr : (Builtin.append_ #[28, 28] ty #[v, .slice (some a) m c]).run Tryd.prog w = .ok v' w') : v'.ownBlock = v.ownBlock ∨ v'.ownBlock = some w.heap.size ∧ w.grownBy w' none := by
  obtain ⟨ie, hie, hz, hs, hb⟩ := u8_info
  have hnew : ∀ o, w.grownBy (w.drew.alloc o) none := fun o => ⟨rfl, rfl, rfl, by simp, fun k hk _ => heap_alloc_old w.drew _ hk⟩
  rcases hv.2 with ⟨rfl, hn⟩ | ⟨g, cap, cur, rfl, hbg, hg, hnc, hcm, hcs, htake⟩
  · have e := run_append_nil (P := Tryd.prog) w 28 ty 5 ie (.int .u8 0) Tryd.underlying28 hie hz a m c (l2.map (Value.int .u8)) (by simp [hm, hs]) h2.src h0 (by omega) (by rw [hb]; omega)
    rw [e] at hr
    injection hr with h1 h2
    subst h1; subst h2
    exact .inr ⟨rfl, hnew _⟩
  · by_cases hroom : l.length + m ≤ cap
    · have e := run_append_room (P := Tryd.prog) w 28 ty 5 ie Tryd.underlying28 hie g l.length cap cur hg a m c (l2.map (Value.int .u8)) (by simp [hm, hs]) h2.src (by simp [Value.oneCell']) hroom (by rw [hs, List.length_map]; omega)
      rw [e] at hr
      injection hr with h1 h2
      subst h1
      exact .inl rfl
    · have holds : ∀ j u, (l.map (Value.int .u8))[j]? = some u → w.cell? ((⟨g, 0, none⟩ : Addr).add j) = some u := World.ownsRow.cells (g := g) hv rfl
      have e := run_append_grow (P := Tryd.prog) w 28 ty 5 ie (.int .u8 0) Tryd.underlying28 hie hz ⟨g, 0, none⟩ l.length cap (l.map (Value.int .u8)) (by simp [hs]) holds a m c (l2.map (Value.int .u8)) (by simp [hm, hs]) h2.src (by omega) (by omega) (growslice_fits (by omega) (by rw [hb]; omega))
      rw [e] at hr
      injection hr with h1 h2
      subst h1; subst h2
      exact .inr ⟨rfl, hnew _⟩
/-- append onto a full row. -/
theorem run_app_full {w : World} {B g : Nat} {l l2 : List Int} (ty : TypeId) {a : Addr} {m c : Nat} {fr : Nat × Nat} (h0 : 0 < m) (hg : w.heap[g]? = some (.cells (vals l) 5 fr)) (hm : l2.length = m) (h2 : BytesIn w (some a) l2) (hB : B ≤ w.heap.size) (hbig : l.length + m ≤ 140737488355328) :
    ∃ v' w', (Builtin.append_ #[28, 28] ty #[.slice (some ⟨g, 0, none⟩) l.length l.length, .slice (some a) m c]).run Tryd.prog w = .ok v' w' ∧ Bts w' B v' (l ++ l2) ∧ v'.ownBlock = some w.heap.size ∧ w.grownBy w' none := by
  obtain ⟨ie, hie, hz, hs, hb⟩ := u8_info
  have holds : ∀ j u, (l.map (Value.int .u8))[j]? = some u → w.cell? ((⟨g, 0, none⟩ : Addr).add j) = some u := BytesIn.src (marked_cell hg)
  have e := run_append_grow (P := Tryd.prog) w 28 ty 5 ie (.int .u8 0) Tryd.underlying28 hie hz ⟨g, 0, none⟩ l.length l.length (l.map (Value.int .u8)) (by simp [hs]) holds a m c (l2.map (Value.int .u8)) (by simp [hm, hs]) h2.src (by omega) (by omega) (growslice_fits (by omega) (by rw [hb]; omega))
  refine ⟨_, _, e, ?_, rfl, ⟨rfl, rfl, rfl, by simp, fun k hk _ => heap_alloc_old w.drew _ hk⟩⟩
  have hge := grownCap_ge w (l.length + m) l.length 5
  have hcm := grownCap_le_maxLen w (l.length + m) l.length 5 (by simp only [maxLen]; omega)
  have h3 := Bts.row (l := l ++ l2) (B := B) (c := grownCap w (l.length + m) l.length 5) (heap_alloc_new w.drew (.cells ((l.map (Value.int .u8)).toArray ++ (l2.map (Value.int .u8)).toArray ++ Builtin.zeroCells (Value.int .u8 0).cells (grownCap w (l.length + m) l.length 5 - (l.length + m))) 5)) hB (by rw [List.length_append, hm]; exact hge) hcm (by
    simp only [Array.size_append, List.size_toArray, List.length_map, size_zeroCells, hm]
    have : (Value.int .u8 0).cells.size = 1 := rfl
    rw [this]
    omega) (by
    simp only [Array.toList_append, List.map_append]
    have hl : (l ++ l2).length = (l.map (Value.int .u8) ++ l2.map (Value.int .u8)).length := by simp
    rw [hl]
    exact List.take_left)
  rw [List.length_append, hm] at h3
  exact h3
section
variable {o : Oper} {w b : World} {a : Act} {Q : Exit → Act → World → Prop} {ops : Array Oper} {rest : List Oper}
/-- append(v, x), the literal laid just before; said also where the old row stays. -/
theorem wpList_app2 {v : Value} {l : List Int} {u : Int} (x y : Operand) (hgd : o.guard = none) (ho : o.op = .call { callee := .builtin .append, args := #[x, y], argTypes := #[28, 28] }) (hx : a.eval x = v) (hy : a.eval y = .slice (some ⟨w.heap.size, 0, none⟩) 1 1)
    (hB : b.heap.size ≤ w.heap.size) (hv : BtsM w b.heap.size v l) (hbig : l.length + 1 ≤ 140737488355328)
    (hK : ∀ v' w', Bts w' b.heap.size v' (l ++ [u]) → (v'.ownBlock = v.ownBlock ∧ w.grownBy w' v.ownBlock ∨ (∃ k, v'.ownBlock = some k ∧ w.heap.size ≤ k) ∧ w.grownBy w' none) → wpList Tryd.prog ops Q rest (a.put o.dst v') w') : wpList Tryd.prog ops Q (o :: rest) a (w.alloc (.cells #[.int .u8 u] 5)) := by
  have hs : w.heap.size ≤ (w.alloc (.cells #[.int .u8 u] 5)).heap.size := by simp
  have tr : ∀ row w', (w.alloc (.cells #[.int .u8 u] 5)).grownBy w' row → w.grownBy w' row := fun row w' h => ⟨h.os, h.tape, h.output, Nat.le_trans hs h.size, fun k hk hne => (h.block k (Nat.lt_of_lt_of_le hk hs) hne).trans (Below.heap_alloc w _ k hk)⟩
  rcases hv with hv | ⟨g, rfl, hBg, hg, hm⟩
  · obtain ⟨v', w', h3, h4, h5, h6⟩ := run_app (l2 := [u]) o.type (hv.alloc (.cells #[.int .u8 u] 5)) rfl (bytesIn_one w u) (fun h => by cases h) (Nat.le_trans hB hs) hbig (c := 1)
    have h7 := run_app_where (l2 := [u]) o.type Nat.one_pos (hv.alloc (.cells #[.int .u8 u] 5)) rfl (bytesIn_one w u) hbig h3
    refine wpList_step fun K hKK => if_always hgd (wp_append_run x y _ ho hx hy h3 (hKK _ _ (hK v' w' h4 ?_)))
    rcases h7 with h7 | ⟨h7, h8⟩
    · exact .inl ⟨h7, tr _ _ h5⟩
    · exact .inr ⟨⟨_, h7, hs⟩, tr _ _ h8⟩
  · have hg2 : (w.alloc (.cells #[.int .u8 u] 5)).heap[g]? = some (.cells (vals l) 5 (l.length, l.length + 1)) := by
      rw [Below.heap_alloc w _ g (Array.getElem?_eq_some_iff.1 hg).1, hg]
    obtain ⟨v', w', h3, h4, h5, h6⟩ := run_app_full (l2 := [u]) o.type Nat.one_pos hg2 rfl (bytesIn_one w u) (Nat.le_trans hB hs) hbig (c := 1)
    exact wpList_step fun K hKK => if_always hgd (wp_append_run x y _ ho hx hy h3 (hKK _ _ (hK v' w' h4 (.inr ⟨⟨_, h5, hs⟩, tr _ _ h6⟩))))
end
def pb (p : Option Addr) : Option Nat := p.map (·.block)
theorem pb_own (p : Option Addr) (n c : Nat) : (Value.slice p n c).ownBlock = pb p := by cases p <;> rfl
/-- The lists that Apart looks at: where each lies, its length and room. -/
structure Lists where
  n : Nat
  P : Nat → Option Addr
  ln : Nat → Nat
  C : Nat → Nat
def Lists.V (R : Lists) (j : Nat) : Value := .slice (R.P j) (R.ln j) (R.C j)
/-- No two of them lie in one block; each is short enough. -/
structure Lists.Fair (R : Lists) : Prop where
  few : R.n ≤ 1000
  short : ∀ j, j < R.n → R.ln j ≤ 1099511627776
  apart : ∀ i j, i < R.n → j < R.n → i ≠ j → pb (R.P i) = none ∨ pb (R.P i) ≠ pb (R.P j)
/-- The list of lists: its elements, in a block of its own, below S. -/
def Out (w : World) (p : Option Addr) (R : Lists) (S : Nat) : Prop := ∀ k, k < R.n → ∃ a, p = some a ∧ a.block < S ∧ S ≤ w.heap.size ∧ w.cell? (a.add k) = some (R.V k) ∧ ∀ j, j < R.n → pb (R.P j) ≠ some a.block
theorem Out.grown {w w' : World} {p : Option Addr} {R : Lists} {S : Nat} {row : Option Nat} (h : Out w p R S) (hg : w.grownBy w' row) (hne : ∀ x, row = some x → (∃ j, j < R.n ∧ pb (R.P j) = some x) ∨ S ≤ x) : Out w' p R S := fun k hk => by
  obtain ⟨a, e, h1, h2, h3, h4⟩ := h k hk
  refine ⟨a, e, h1, Nat.le_trans h2 hg.size, ?_, h4⟩
  have hb : some a.block ≠ row := fun e => by
    rcases hne _ e.symm with ⟨j, hj, e2⟩ | h5
    · exact h4 j hj e2
    · omega
  rw [← h3]
  exact World.cell?_of_block (by rw [add_block]; exact hg.block _ (Nat.lt_of_lt_of_le h1 h2) hb)
/-- The first round, at place m of list i. -/
structure Ph1 (b : World) (p : Option Addr) (R : Lists) (S : Nat) (w : World) (i m : Nat) : Prop where
  below : Below b.heap.size b w
  out : Out w p R S
  rows : ∀ j, j < R.n → ∃ l, l.length = R.ln j ∧ BtsM w b.heap.size (R.V j) l ∧ (j < i → l = marks j (R.ln j)) ∧ (j = i → l.take m = marks i m)
theorem Ph1.under {b w w' : World} {p : Option Addr} {R : Lists} {S i m : Nat} (h : Ph1 b p R S w i m) (hb : Below w.heap.size w w') : Ph1 b p R S w' i m :=
  ⟨below_call hb h.below, h.out.grown (grown_of_below hb none) (fun x e => by cases e), fun j hj => by
    obtain ⟨l, h1, h2, h3⟩ := h.rows j hj
    exact ⟨l, h1, h2.under hb, h3⟩⟩
theorem Ph1.start {b w : World} {p : Option Addr} {R : Lists} {S : Nat} (hb : Below b.heap.size b w) (ho : Out w p R S) (hv : ∀ j, j < R.n → ∃ l, l.length = R.ln j ∧ BtsM w b.heap.size (R.V j) l) : Ph1 b p R S w 0 0 :=
  ⟨hb, ho, fun j hj => by
    obtain ⟨l, h1, h2⟩ := hv j hj
    exact ⟨l, h1, h2, fun h => by omega, fun _ => rfl⟩⟩
theorem Ph1.next {b w : World} {p : Option Addr} {R : Lists} {S i : Nat} (h : Ph1 b p R S w i (R.ln i)) : Ph1 b p R S w (i + 1) 0 :=
  ⟨h.below, h.out, fun j hj => by
    obtain ⟨l, h1, h2, h3, h4⟩ := h.rows j hj
    refine ⟨l, h1, h2, fun hlt => ?_, fun _ => rfl⟩
    rcases Nat.lt_or_ge j i with h5 | h5
    · exact h3 h5
    · obtain rfl : j = i := by omega
      have := h4 rfl
      rwa [← h1, List.take_length, h1] at this⟩
theorem take_set_here {l : List Int} {m : Nat} {u : Int} {L : List Int} (hm : m < l.length) (h : l.take m = L) : (l.set m u).take (m + 1) = L ++ [u] := by
  rw [List.take_succ_eq_append_getElem (by simpa using hm), List.getElem_set_self, List.take_set_of_le (Nat.le_refl _), h]
/-- A mark is written. -/
theorem Ph1.mark {b w : World} {p : Option Addr} {R : Lists} {S i m : Nat} (hR : R.Fair) (h : Ph1 b p R S w i m) (hi : i < R.n) (hm : m < R.ln i) :
    ∃ g, R.P i = some ⟨g, 0, none⟩ ∧ R.ln i ≤ R.C i ∧ (∃ u, w.cell? ⟨g, m, none⟩ = some (.int .u8 u)) ∧ w.frozen? ⟨g, m, none⟩ = false ∧ Ph1 b p R S (w.setCell ⟨g, m, none⟩ (.int .u8 (mkB i m))) i (m + 1) := by
  obtain ⟨l, h1, h2, h3, h4⟩ := h.rows i hi
  obtain ⟨q, c, e, hbi, hpn, hbl, hlc, hcm⟩ := h2.open
  rw [Lists.V] at e h2
  injection e with e1 e2 e3
  obtain ⟨a, ea, _, hc⟩ := hbi m (by omega)
  rw [ea] at e1
  obtain ⟨g, o, s⟩ := a
  obtain ⟨_, e4, hB⟩ := hbl _ ea
  injection e4 with _ e5 e6
  subst e5; subst e6
  rw [add_lit] at hc
  rw [e1] at h2
  have hst := h2.stored m (mkB i m)
  have hbel : Below b.heap.size b (w.setCell ⟨g, m, none⟩ (.int .u8 (mkB i m))) := belowM_grown h.below h2 h.below.size hst.2
  refine ⟨g, e1, by omega, ⟨_, hc⟩, h2.free m (by omega), hbel, h.out.grown hst.2 (fun x e => ?_), fun j hj => ?_⟩
  · injection e with e
    exact .inl ⟨i, hi, by rw [e1, ← e]; rfl⟩
  · by_cases hji : j = i
    · subst hji
      refine ⟨l.set m (mkB j m), by rw [List.length_set, h1], ?_, fun h => by omega, fun _ => ?_⟩
      · rw [Lists.V, e1]; exact hst.1
      · rw [take_set_here (by omega) (h4 rfl), marks_succ]
    · obtain ⟨l2, k1, k2, k3, _⟩ := h.rows j hj
      refine ⟨l2, k1, k2.kept hst.2 ?_, k3, fun h => absurd h hji⟩
      rw [Lists.V, pb_own]
      rcases hR.apart j i hj hi hji with h5 | h5
      · exact .inl h5
      · rw [e1] at h5
        exact .inr h5
/-- The second round: i lists have been grown; those from t on are as they were. -/
structure Ph2 (b : World) (p : Option Addr) (R : Lists) (S : Nat) (w : World) (gv : Value) (rs : List Row1) (i t : Nat) : Prop where
  below : Below b.heap.size b w
  out : Out w p R S
  size : S ≤ w.heap.size
  todo : ∀ j, t ≤ j → j < R.n → BtsM w b.heap.size (R.V j) (marks j (R.ln j))
  done : ∀ j, j < i → BytesIn w (R.P j) (marks j (R.ln j))
  own : RowsOwn w b.heap.size gv rs
  len : rs.length = i
  rows : ∀ (j : Nat) (r : Row1), rs[j]? = some r → r.2.2 = marks j (R.ln j + 70) ∧ (pb r.1 = pb (R.P j) ∨ ∃ x, pb r.1 = some x ∧ S ≤ x)
  far : ∀ x, gv.ownBlock = some x → S ≤ x
theorem Ph2.start {b w : World} {p : Option Addr} {R : Lists} {S : Nat} (hs : S ≤ w.heap.size) (h : Ph1 b p R S w R.n 0) : Ph2 b p R S w (.slice none 0 0) [] 0 0 :=
  ⟨h.below, h.out, hs, fun j _ hj => by
    obtain ⟨l, h1, h2, h3, _⟩ := h.rows j hj
    rw [h3 hj] at h2
    exact h2, fun j hj => by omega, rowsOwn_nil _ _, rfl, fun j r h => by simp at h, fun x h => by cases h⟩
theorem pb_some {p : Option Addr} {a : Addr} (h : p = some a) : pb p = some a.block := by rw [h]; rfl
theorem far_of {p : Option Addr} {row : Option Nat} (h : pb p = none ∨ pb p ≠ row) : ∀ a, p = some a → some a.block ≠ row := fun a ha e => by
  rw [pb_some ha] at h
  rcases h with h | h
  · cases h
  · exact h e
/-- .. list i is being grown: g is what it has grown to. -/
structure Grw (b : World) (R : Lists) (T : Nat) (w : World) (gv : Value) (rs : List Row1) (i : Nat) (g : Value) (k : Nat) : Prop where
  bts : BtsM w b.heap.size g (marks i (R.ln i + k))
  here : BytesIn w (R.P i) (marks i (R.ln i))
  head : ∀ a, R.P i = some a → a = ⟨a.block, 0, none⟩
  blk : g.ownBlock = pb (R.P i) ∨ ∃ x, g.ownBlock = some x ∧ T ≤ x
theorem Ph2.grw {b w : World} {p : Option Addr} {R : Lists} {S : Nat} {gv : Value} {rs : List Row1} {i : Nat} (h : Ph2 b p R S w gv rs i i) (hi : i < R.n) (T : Nat) :
    Ph2 b p R S w gv rs i (i + 1) ∧ Grw b R T w gv rs i (R.V i) 0 := by
  have h1 := h.todo i (Nat.le_refl _) hi
  refine ⟨⟨h.below, h.out, h.size, fun j hj => h.todo j (by omega), h.done, h.own, h.len, h.rows, h.far⟩, h1, h1.bytesIn, fun a ha => ?_, .inl (pb_own ..)⟩
  obtain ⟨q, c, e, _, _, h2, _⟩ := h1.open
  rw [Lists.V] at e
  injection e with e1 _ _
  exact (h2 a (e1 ▸ ha)).2.1
theorem Ph2.grown {b w w' : World} {p : Option Addr} {R : Lists} {S T : Nat} {gv : Value} {rs : List Row1} {i : Nat} {row : Option Nat} (hR : R.Fair) (h : Ph2 b p R S w gv rs i (i + 1)) (hi : i < R.n) (hST : S ≤ T) (hS : ∀ j, j < R.n → ∀ x, pb (R.P j) = some x → x < S)
    (hT : ∀ x, gv.ownBlock = some x → x < T) (hT2 : ∀ r : Row1, r ∈ rs → ∀ x, pb r.1 = some x → x < T) (hg : w.grownBy w' row) (hbe : Below b.heap.size b w') (hrow : row = none ∨ row = pb (R.P i) ∨ ∃ x, row = some x ∧ T ≤ x) : Ph2 b p R S w' gv rs i (i + 1) := by
  have hj : ∀ j, j < R.n → j ≠ i → pb (R.P j) = none ∨ pb (R.P j) ≠ row := fun j hj hne => by
    rcases hrow with rfl | rfl | ⟨x, rfl, hx⟩
    · cases pb (R.P j) <;> simp
    · exact hR.apart j i hj hi hne
    · exact .inr fun e => by have := hS j hj x e; omega
  have hgv : gv.ownBlock = none ∨ gv.ownBlock ≠ row := by
    rcases hrow with rfl | rfl | ⟨x, rfl, hx⟩
    · cases gv.ownBlock <;> simp
    · cases e : gv.ownBlock with
      | none => exact .inl rfl
      | some y => exact .inr fun e2 => by have h1 := h.far y e; have h2 := hS i hi y e2.symm; omega
    · exact .inr fun e => by have := hT x e; omega
  have hrs : ∀ (j : Nat) (r : Row1), rs[j]? = some r → pb r.1 = none ∨ pb r.1 ≠ row := fun j r hr => by
    have hjl : j < i := by rw [← h.len]; exact (List.getElem?_eq_some_iff.1 hr).1
    rcases (h.rows j r hr).2 with e | ⟨x, e, hx⟩
    · rw [e]; exact hj j (by omega) (by omega)
    · rcases hrow with rfl | rfl | ⟨y, rfl, hy⟩
      · exact .inr (by rw [e]; simp)
      · exact .inr fun e2 => by rw [e] at e2; have := hS i hi x e2.symm; omega
      · exact .inr fun e2 => by have := hT2 r (List.mem_of_getElem? hr) y e2; omega
  refine ⟨hbe, h.out.grown hg (fun x e => ?_), Nat.le_trans h.size hg.size, fun j h1 h2 => (h.todo j h1 h2).kept hg ?_, fun j h1 => (h.done j h1).far hg (far_of (hj j (by omega) (by omega))), ⟨World.ownsRow.kept h.own.1 hg hgv, fun r hr => ?_⟩, h.len, h.rows, h.far⟩
  · rcases hrow with rfl | rfl | ⟨y, rfl, hy⟩
    · cases e
    · exact .inl ⟨i, hi, e⟩
    · injection e with e; exact .inr (by omega)
  · rw [Lists.V, pb_own]; exact hj j h2 (by omega)
  · obtain ⟨j, hj2⟩ := List.mem_iff_getElem?.1 hr
    exact ⟨(h.own.2 r hr).1.far hg (far_of (hrs j r hj2)), (h.own.2 r hr).2⟩
/-- A mark is appended. -/
theorem Grw.step {b w w' : World} {R : Lists} {T : Nat} {gv g g' : Value} {rs : List Row1} {i k : Nat} (h : Grw b R T w gv rs i g k) (hT : T ≤ w.heap.size) (hP : ∀ x, pb (R.P i) = some x → x < T) (hb : Bts w' b.heap.size g' (marks i (R.ln i + k) ++ [mkB i (R.ln i + k)]))
    (hw : g'.ownBlock = g.ownBlock ∧ w.grownBy w' g.ownBlock ∨ (∃ x, g'.ownBlock = some x ∧ w.heap.size ≤ x) ∧ w.grownBy w' none) : Grw b R T w' gv rs i g' (k + 1) := by
  rw [marks_succ] at hb
  refine ⟨.inl hb, ?_, h.head, ?_⟩
  · rcases hw with ⟨e, hg⟩ | ⟨_, hg⟩
    · rcases h.blk with e2 | ⟨x, e2, hx⟩
      · -- grown where it lies
        obtain ⟨q, c, e3, h1, h2, h3, _⟩ := hb.open
        intro m hm
        rw [marks_len] at hm
        obtain ⟨a, ea, h4, h5⟩ := h1 m (by rw [marks_len]; omega)
        obtain ⟨a0, ea0, h40, h50⟩ := h.here m (by rw [marks_len]; exact hm)
        have hq := h3 a ea
        have e4 : some a.block = some a0.block := by rw [← hq.1, e, e2, ea0]; rfl
        injection e4 with e4
        have hoff := h.head a0 ea0
        refine ⟨a0, ea0, by rw [← e4]; exact h4, ?_⟩
        rw [hoff, ← e4, ← hq.2.1, h5, marks_nth (by omega), marks_nth hm]
      · exact h.here.far hg (fun a ha e3 => by
        rw [e2] at e3
        have := hP x (by rw [pb_some ha]; exact e3)
        omega)
    · exact h.here.far hg (fun _ _ e => by cases e)
  · rcases hw with ⟨e, _⟩ | ⟨⟨x, e, hx⟩, _⟩
    · rw [e]; exact h.blk
    · exact .inr ⟨x, e, by omega⟩
theorem tSl : CellT Tryd.prog 28 := ⟨_, Tryd.underlying28, rfl⟩
theorem tU8 : CellT Tryd.prog 5 := ⟨_, Tryd.underlying5, rfl⟩
theorem neqB {p q : Operand} (x : Int) (w : World) : (do eqGuard .neq 5 p q (.int .u8 x) (.int .u8 x); binOp .neq 5 (.int .u8 x) (.int .u8 x) : Sem Value).run Tryd.prog w = .ok (.bool false) w := by
  go_simp
theorem lss_yes {p q : Operand} {a b : Int} (h : a < b) (w : World) : (do eqGuard .lss 3 p q (.int .i64 a) (.int .i64 b); binOp .lss 3 (.int .i64 a) (.int .i64 b) : Sem Value).run Tryd.prog w = .ok (.bool true) w := by
  rw [← decide_eq_true h]; rfl
theorem lss_no {p q : Operand} {a b : Int} (h : ¬ a < b) (w : World) : (do eqGuard .lss 3 p q (.int .i64 a) (.int .i64 b); binOp .lss 3 (.int .i64 a) (.int .i64 b) : Sem Value).run Tryd.prog w = .ok (.bool false) w := by
  rw [← decide_eq_false h]; rfl
theorem Out.at {w : World} {a : Addr} {R : Lists} {S k : Nat} (h : Out w (some a) R S) (hk : k < R.n) : a.block < w.heap.size ∧ w.cell? (a.add k) = some (.slice (R.P k) (R.ln k) (R.C k)) := by
  obtain ⟨a', e, h1, h2, h3, _⟩ := h k hk
  injection e with e
  subst e
  exact ⟨by omega, h3⟩
theorem Out.cells {w : World} {a : Addr} {R : Lists} {S k : Nat} (h : Out w (some a) R S) (hk : k < R.n) : ∀ w', Below w.heap.size w w' → w'.cell? (a.add (k * 1)) = some (.slice (R.P k) (R.ln k) (R.C k)) := fun w' hb => by
  rw [Nat.mul_one, ← (h.at hk).2]
  exact World.cell?_of_block (by rw [add_block]; exact hb.block _ (h.at hk).1)
theorem Ph2.under {b w w' : World} {p : Option Addr} {R : Lists} {S : Nat} {gv : Value} {rs : List Row1} {i : Nat} (hR : R.Fair) (h : Ph2 b p R S w gv rs i (i + 1)) (hi : i < R.n) (hS : ∀ j, j < R.n → ∀ x, pb (R.P j) = some x → x < S) (hb : Below w.heap.size w w') : Ph2 b p R S w' gv rs i (i + 1) :=
  h.grown (T := w.heap.size) hR hi h.size hS (fun x e => (h.own.lt x e).2) (fun r hr x e => by
    obtain ⟨p, c, l⟩ := r
    cases p with
    | none => cases e
    | some a => injection e with e; rw [← e]; exact (h.own.2 _ hr).1.2.2 a rfl) (grown_of_below hb none) (below_call hb h.below) (.inl rfl)
theorem Grw.under {b w w' : World} {R : Lists} {T : Nat} {gv g : Value} {rs : List Row1} {i k : Nat} (h : Grw b R T w gv rs i g k) (hb : Below w.heap.size w w') : Grw b R T w' gv rs i g k :=
  ⟨h.bts.under hb, h.here.keep hb, h.head, h.blk⟩
theorem Ph2.blocks {b w : World} {p : Option Addr} {R : Lists} {S : Nat} {gv : Value} {rs : List Row1} {i t : Nat} (h : Ph2 b p R S w gv rs i t) : (∀ x, gv.ownBlock = some x → x < w.heap.size) ∧ ∀ r : Row1, r ∈ rs → ∀ x, pb r.1 = some x → x < w.heap.size :=
  ⟨fun x e => (h.own.lt x e).2, fun r hr x e => by
    obtain ⟨p, c, l⟩ := r
    cases p with
    | none => cases e
    | some a => injection e with e; rw [← e]; exact (h.own.2 _ hr).1.2.2 a rfl⟩
/-- A list that has been grown joins the others. -/
theorem Ph2.join {b w w' : World} {p : Option Addr} {R : Lists} {S T : Nat} {gv gv' g : Value} {rs : List Row1} {i : Nat} {pg : Option Addr} {cg : Nat} (h : Ph2 b p R S w gv rs i (i + 1)) (hG : Grw b R T w gv rs i g 70) (hi : i < R.n) (hST : S ≤ T) (hS : ∀ j, j < R.n → ∀ x, pb (R.P j) = some x → x < S)
    (eg : g = .slice pg (R.ln i + 70) cg) (hgr : w.grownBy w' gv.ownBlock) (hbe : Below b.heap.size b w') (ho : RowsOwn w' b.heap.size gv' (rs ++ [(pg, cg, marks i (R.ln i + 70))])) (hw : gv'.ownBlock = gv.ownBlock ∨ ∃ k, gv'.ownBlock = some k ∧ w.heap.size ≤ k) :
    Ph2 b p R S w' gv' (rs ++ [(pg, cg, marks i (R.ln i + 70))]) (i + 1) (i + 1) := by
  have hj : ∀ j, j < R.n → pb (R.P j) = none ∨ pb (R.P j) ≠ gv.ownBlock := fun j hj => by
    cases e : gv.ownBlock with
    | none => cases pb (R.P j) <;> simp
    | some y => exact .inr fun e2 => by have h1 := h.far y e; have h2 := hS j hj y e2; omega
  have hln := h.len
  refine ⟨hbe, h.out.grown hgr (fun x e => .inr (h.far x e)), Nat.le_trans h.size hgr.size, fun j h1 h2 => (h.todo j h1 h2).kept hgr ?_, fun j h1 => ?_, ho, by simp [hln], fun j r hr => ?_, fun x e => ?_⟩
  · rw [Lists.V, pb_own]; exact hj j h2
  · rcases Nat.lt_or_ge j i with h2 | h2
    · exact (h.done j h2).far hgr (far_of (hj j (by omega)))
    · obtain rfl : j = i := by omega
      exact hG.here.far hgr (far_of (hj j hi))
  · rw [List.getElem?_append] at hr
    split at hr
    · exact h.rows j r hr
    · rename_i h2
      rw [List.getElem?_singleton] at hr
      split at hr
      · rename_i h3
        injection hr with hr
        subst hr
        obtain rfl : j = i := by omega
        refine ⟨rfl, ?_⟩
        have h4 := hG.blk
        rw [eg, pb_own] at h4
        rcases h4 with h4 | ⟨x, h4, h5⟩
        · exact .inl h4
        · exact .inr ⟨x, h4, by omega⟩
      · cases hr
  · rcases hw with e2 | ⟨k, e2, h2⟩
    · exact h.far x (e2 ▸ e)
    · rw [e2] at e; injection e with e; have := h.size; omega
theorem cell_later {w0 w w' : World} {x : Addr} {v : Value} (hB : Below w0.heap.size w0 w) (hb : Below w.heap.size w w') (hlt : x.block < w0.heap.size) (h : w0.cell? x = some v) : w'.cell? x = some v := by
  rw [← h]
  exact World.cell?_of_block ((below_call hb hB).block _ hlt)
theorem Ph2.appended {b w w3 w' : World} {p : Option Addr} {R : Lists} {S T : Nat} {gv g g' : Value} {rs : List Row1} {i k : Nat} (hR : R.Fair) (h : Ph2 b p R S w gv rs i (i + 1)) (hG : Grw b R T w gv rs i g k) (hi : i < R.n) (hST : S ≤ T) (hTw : T ≤ w.heap.size) (hS : ∀ j, j < R.n → ∀ x, pb (R.P j) = some x → x < S)
    (hT : (∀ x, gv.ownBlock = some x → x < T) ∧ ∀ r : Row1, r ∈ rs → ∀ x, pb r.1 = some x → x < T) (hb : Below w.heap.size w w3) (h1 : Bts w' b.heap.size g' (marks i (R.ln i + k) ++ [mkB i (R.ln i + k)]))
    (h2 : g'.ownBlock = g.ownBlock ∧ w3.grownBy w' g.ownBlock ∨ (∃ x, g'.ownBlock = some x ∧ w3.heap.size ≤ x) ∧ w3.grownBy w' none) : T ≤ w'.heap.size ∧ Ph2 b p R S w' gv rs i (i + 1) ∧ Grw b R T w' gv rs i g' (k + 1) := by
  have h3 := h.under hR hi hS hb
  have hG3 := hG.under hb
  have hT3 : T ≤ w3.heap.size := Nat.le_trans hTw hb.size
  refine ⟨?_, ?_, hG3.step hT3 (fun x e => Nat.lt_of_lt_of_le (hS i hi x e) hST) h1 h2⟩
  · rcases h2 with ⟨_, h2⟩ | ⟨_, h2⟩ <;> exact Nat.le_trans hT3 h2.size
  · rcases h2 with ⟨_, h2⟩ | ⟨_, h2⟩
    · exact h3.grown hR hi hST hS hT.1 hT.2 h2 (belowM_grown h3.below hG3.bts h3.below.size h2) (.inr hG.blk)
    · exact h3.grown hR hi hST hS hT.1 hT.2 h2 (h3.below.grown h2 h3.below.size (fun k hk => by cases hk)) (.inl rfl)
end Go.Proofs.YtmochmpamgfboabDoor
