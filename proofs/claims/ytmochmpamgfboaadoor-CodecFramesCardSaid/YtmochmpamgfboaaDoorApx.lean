/- trystref00.mark; a byte written into bytes of the call's own; append tells whether the old row stays. No condition. What trystref00.Apart keeps, in its three rounds. Plain: no program. trystref00.Apart: lists in blocks of their own share no memory. Conditions: at most 1000 lists, each of at most 2^40 bytes. -/
import Derived.Test.YtmochmpamgfboaaDoorRowB
namespace Go.Proofs.YtmochmpamgfboaaDoor
open Go.RowKit
/-- The mark of list i at place k. -/
def mkB (i k : Nat) : Int := IntKind.u8.wrap ((i : Int) * 31 + (k : Int) * 7 + 1)
set_option maxRecDepth 100000 in
theorem mark_any (i k : Nat) (hi : i ≤ 1000000) (hk : k ≤ 281474976710656) (w : World) : Calls Tryd.prog 52 #[.int .i64 i, .int .i64 k] w (Gives (· = .int .u8 (mkB i k)) w) := by
  go_enter Tryd.func52, Tryd.ntmps52
  go_wp2
  exact ⟨rfl, .int .u8 (mkB i k), by kernel_rfl, _, rfl, rfl, Below.refl _ _⟩
def marks (i n : Nat) : List Int := (List.range n).map (mkB i)
theorem marks_len (i n : Nat) : (marks i n).length = n := by simp [marks]
theorem marks_nth {i n k : Nat} (h : k < n) : nth (marks i n) k = mkB i k := by simp [marks, nth, List.getD_eq_getElem?_getD, h]
theorem marks_succ (i n : Nat) : marks i n ++ [mkB i n] = marks i (n + 1) := by simp [marks, List.range_succ]
theorem marks_take {i n k : Nat} (h : k ≤ n) : (marks i n).take k = marks i k := by
  rw [marks, marks, ← List.map_take, List.take_range, Nat.min_eq_left h]
/-- A byte is written. -/
theorem Bts.stored {w : World} {B g n c : Nat} {l : List Int} (h : Bts w B (.slice (some ⟨g, 0, none⟩) n c) l) (k : Nat) (u : Int) :
    Bts (w.setCell ⟨g, k, none⟩ (.int .u8 u)) B (.slice (some ⟨g, 0, none⟩) n c) (l.set k u) ∧ w.grownBy (w.setCell ⟨g, k, none⟩ (.int .u8 u)) (some g) := by
  obtain ⟨_, _, e, _⟩ := h.open
  injection e with e1 e2 e3
  subst e2
  have h1 := World.ownsRow.stored h k (.int .u8 u)
  refine ⟨?_, h1.2⟩
  rw [Bts, List.length_set, List.map_set]
  exact h1.1
theorem Bts.free {w : World} {B g n c : Nat} {l : List Int} (h : Bts w B (.slice (some ⟨g, 0, none⟩) n c) l) (k : Nat) : w.frozen? ⟨g, k, none⟩ = false := by
  obtain ⟨_, _, e, _⟩ := h.open
  injection e with e1 e2 e3
  subst e2
  exact World.ownsRow.frozenAt h k
/-- .. or a row that is full and bears the run-time's mark behind its last cell (a constant string's bytes). -/
def BtsM (w : World) (B : Nat) (v : Value) (l : List Int) : Prop := Bts w B v l ∨ ∃ g, v = .slice (some ⟨g, 0, none⟩) l.length l.length ∧ B ≤ g ∧ w.heap[g]? = some (.cells (vals l) 5 (l.length, l.length + 1)) ∧ l.length ≤ maxLen
/-- What a call hands back: bytes in memory of its own, marked or not. -/
def NewM (w : World) (l : List Int) (e : Ending) (w' : World) : Prop := Below w.heap.size w w' ∧ ∃ v, e = .returned v ∧ BtsM w' w.heap.size v l
theorem marked_cell {w : World} {g : Nat} {l : List Int} {t : TypeId} {fr : Nat × Nat} (h : w.heap[g]? = some (.cells (vals l) t fr)) : BytesIn w (some ⟨g, 0, none⟩) l := fun i hi => by
  refine ⟨_, rfl, (Array.getElem?_eq_some_iff.1 h).1, ?_⟩
  rw [add_lit]
  simp [World.cell?, h, vals_get hi]
theorem BtsM.open {w : World} {B : Nat} {v : Value} {l : List Int} (h : BtsM w B v l) : ∃ p c, v = .slice p l.length c ∧ BytesIn w p l ∧ (p = none → c = 0) ∧ (∀ a, p = some a → v.ownBlock = some a.block ∧ a = ⟨a.block, 0, none⟩ ∧ B ≤ a.block) ∧ l.length ≤ c ∧ c ≤ maxLen := by
  rcases h with h | ⟨g, rfl, hB, hg, hm⟩
  · exact h.open
  · refine ⟨_, _, rfl, marked_cell hg, fun h => (by cases h), fun a h => ?_, Nat.le_refl _, hm⟩
    injection h with h
    subst h
    exact ⟨rfl, rfl, hB⟩
theorem BtsM.bytesIn {w : World} {B : Nat} {p : Option Addr} {n c : Nat} {l : List Int} (h : BtsM w B (.slice p n c) l) : BytesIn w p l := by
  obtain ⟨_, _, e, h1, _⟩ := h.open
  injection e with e1 e2 e3
  subst e1
  exact h1
theorem BtsM.lt {w : World} {B : Nat} {v : Value} {l : List Int} (h : BtsM w B v l) : ∀ k, v.ownBlock = some k → B ≤ k ∧ k < w.heap.size := by
  rcases h with h | ⟨g, rfl, hB, hg, hm⟩
  · exact h.lt
  · intro k hk
    injection hk with hk
    subst hk
    exact ⟨hB, (Array.getElem?_eq_some_iff.1 hg).1⟩
theorem BtsM.kept {w w' : World} {B : Nat} {v : Value} {l : List Int} {row : Option Nat} (h : BtsM w B v l) (hg : w.grownBy w' row) (hne : v.ownBlock = none ∨ v.ownBlock ≠ row) : BtsM w' B v l := by
  rcases h with h | ⟨g, rfl, hB, hg2, hm⟩
  · exact .inl (h.kept hg hne)
  · refine .inr ⟨g, rfl, hB, ?_, hm⟩
    rw [hg.block g (Array.getElem?_eq_some_iff.1 hg2).1 (fun e => ?_), hg2]
    rcases hne with hne | hne
    · cases hne
    · exact hne e
theorem BtsM.under {w w' : World} {B : Nat} {v : Value} {l : List Int} (h : BtsM w B v l) (hb : Below w.heap.size w w') : BtsM w' B v l :=
  h.kept (grown_of_below hb none) (by cases v.ownBlock <;> simp)
theorem BtsM.alloc {w : World} {B : Nat} {v : Value} {l : List Int} (h : BtsM w B v l) (o : Obj) : BtsM (w.alloc o) B v l := h.under ((Below.refl _ _).alloc (Nat.le_refl _) _)
theorem BtsM.low {w : World} {B B' : Nat} {v : Value} {l : List Int} (h : BtsM w B v l) (hB : B' ≤ B) : BtsM w B' v l := by
  rcases h with h | ⟨g, e, hb, r⟩
  · exact .inl (h.low hB)
  · exact .inr ⟨g, e, Nat.le_trans hB hb, r⟩
theorem BtsM.stored {w : World} {B g n c : Nat} {l : List Int} (h : BtsM w B (.slice (some ⟨g, 0, none⟩) n c) l) (k : Nat) (u : Int) :
    BtsM (w.setCell ⟨g, k, none⟩ (.int .u8 u)) B (.slice (some ⟨g, 0, none⟩) n c) (l.set k u) ∧ w.grownBy (w.setCell ⟨g, k, none⟩ (.int .u8 u)) (some g) := by
  have hgr : w.grownBy (w.setCell ⟨g, k, none⟩ (.int .u8 u)) (some g) := ⟨rfl, rfl, rfl, by simp, fun j _ hj => heap_setCell_other w ⟨g, k, none⟩ j _ (fun e => hj (by simp [e]))⟩
  rcases h with h | ⟨g', e, hB, hg, hm⟩
  · exact ⟨.inl (h.stored k u).1, hgr⟩
  · injection e with e1 e2 e3
    injection e1 with e1
    injection e1 with e1
    subst e1; subst e2; subst e3
    refine ⟨.inr ⟨g, by rw [List.length_set], hB, ?_, by rw [List.length_set]; exact hm⟩, hgr⟩
    rw [List.length_set]
    have hlt := (Array.getElem?_eq_some_iff.1 hg).1
    have hv := (Array.getElem?_eq_some_iff.1 hg).2
    show (w.heap.modify g _)[g]? = _
    rw [Array.getElem?_eq_getElem (by simpa using hlt), Array.getElem_modify_self, hv]
    have e2 : (vals l).setIfInBounds k (.int .u8 u) = vals (l.set k u) := by
      apply Array.ext'
      simp [vals, List.map_set]
    rw [← e2]
    rfl
theorem BtsM.free {w : World} {B g n c : Nat} {l : List Int} (h : BtsM w B (.slice (some ⟨g, 0, none⟩) n c) l) (k : Nat) (hk : k < l.length) : w.frozen? ⟨g, k, none⟩ = false := by
  rcases h with h | ⟨g', e, hB, hg, hm⟩
  · exact h.free k
  · injection e with e1 e2 e3
    injection e1 with e1
    injection e1 with e1
    subst e1
    simp only [World.frozen?, hg]
    simp
    omega
theorem BtsM.el {w : World} {B : Nat} {v : Value} {l : List Int} (h : BtsM w B v l) : ∃ p c, v = .slice p l.length c ∧ El1 w (p, c, l) ∧ ∀ a, p = some a → v.ownBlock = some a.block := by
  obtain ⟨p, c, rfl, h1, h2, h3, _⟩ := h.open
  exact ⟨p, c, rfl, ⟨h1, h2, fun a ha => (h.lt _ (h3 a ha).1).2⟩, fun a ha => (h3 a ha).1⟩
theorem belowM_grown {B : Nat} {b w w' : World} {v : Value} {l : List Int} (h : Below B b w) (hb : BtsM w B v l) (hB : B ≤ w.heap.size) (hg : w.grownBy w' v.ownBlock) : Below B b w' := h.grown hg hB fun k hk => (hb.lt k hk).1
/-- Where bytes that grow lie: in the old row, or the old row stays. -/
theorem run_app_where {w w' : World} {B : Nat} {v v' : Value} {l l2 : List Int} (ty : TypeId) {a : Addr} {m c : Nat} (h0 : 0 < m) (hv : Bts w B v l) (hm : l2.length = m) (h2 : BytesIn w (some a) l2) (hbig : l.length + m ≤ 140737488355328)
    (hr : (Builtin.append_ #[26, 26] ty #[v, .slice (some a) m c]).run Tryd.prog w = .ok v' w') : v'.ownBlock = v.ownBlock ∨ v'.ownBlock = some w.heap.size ∧ w.grownBy w' none := by
  obtain ⟨ie, hie, hz, hs, hb⟩ := u8_info
  have hnew : ∀ o, w.grownBy (w.drew.alloc o) none := fun o => ⟨rfl, rfl, rfl, by simp, fun k hk _ => heap_alloc_old w.drew _ hk⟩
  rcases hv.2 with ⟨rfl, hn⟩ | ⟨g, cap, cur, rfl, hbg, hg, hnc, hcm, hcs, htake⟩
  · have e := run_append_nil (P := Tryd.prog) w 26 ty 5 ie (.int .u8 0) Tryd.underlying26 hie hz a m c (l2.map (Value.int .u8)) (by simp [hm, hs]) h2.src h0 (by omega) (by rw [hb]; omega)
    rw [e] at hr
    injection hr with h1 h2
    subst h1; subst h2
    exact .inr ⟨rfl, hnew _⟩
  · by_cases hroom : l.length + m ≤ cap
    · have e := run_append_room (P := Tryd.prog) w 26 ty 5 ie Tryd.underlying26 hie g l.length cap cur hg a m c (l2.map (Value.int .u8)) (by simp [hm, hs]) h2.src (by simp [Value.oneCell']) hroom (by rw [hs, List.length_map]; omega)
      rw [e] at hr
      injection hr with h1 h2
      subst h1
      exact .inl rfl
    · have holds : ∀ j u, (l.map (Value.int .u8))[j]? = some u → w.cell? ((⟨g, 0, none⟩ : Addr).add j) = some u := World.ownsRow.cells (g := g) hv rfl
      have e := run_append_grow (P := Tryd.prog) w 26 ty 5 ie (.int .u8 0) Tryd.underlying26 hie hz ⟨g, 0, none⟩ l.length cap (l.map (Value.int .u8)) (by simp [hs]) holds a m c (l2.map (Value.int .u8)) (by simp [hm, hs]) h2.src (by omega) (by omega) (growslice_fits (by omega) (by rw [hb]; omega))
      rw [e] at hr
      injection hr with h1 h2
      subst h1; subst h2
      exact .inr ⟨rfl, hnew _⟩
/-- append onto a full row. -/
theorem run_app_full {w : World} {B g : Nat} {l l2 : List Int} (ty : TypeId) {a : Addr} {m c : Nat} {fr : Nat × Nat} (h0 : 0 < m) (hg : w.heap[g]? = some (.cells (vals l) 5 fr)) (hm : l2.length = m) (h2 : BytesIn w (some a) l2) (hB : B ≤ w.heap.size) (hbig : l.length + m ≤ 140737488355328) :
    ∃ v' w', (Builtin.append_ #[26, 26] ty #[.slice (some ⟨g, 0, none⟩) l.length l.length, .slice (some a) m c]).run Tryd.prog w = .ok v' w' ∧ Bts w' B v' (l ++ l2) ∧ v'.ownBlock = some w.heap.size ∧ w.grownBy w' none := by
  obtain ⟨ie, hie, hz, hs, hb⟩ := u8_info
  have holds : ∀ j u, (l.map (Value.int .u8))[j]? = some u → w.cell? ((⟨g, 0, none⟩ : Addr).add j) = some u := BytesIn.src (marked_cell hg)
  have e := run_append_grow (P := Tryd.prog) w 26 ty 5 ie (.int .u8 0) Tryd.underlying26 hie hz ⟨g, 0, none⟩ l.length l.length (l.map (Value.int .u8)) (by simp [hs]) holds a m c (l2.map (Value.int .u8)) (by simp [hm, hs]) h2.src (by omega) (by omega) (growslice_fits (by omega) (by rw [hb]; omega))
  refine ⟨_, _, e, ?_, rfl, ⟨rfl, rfl, rfl, by simp, fun k hk _ => heap_alloc_old w.drew _ hk⟩⟩
  have hge := grownCap_ge w (l.length + m) l.length 5
  have hcm := grownCap_le_maxLen w (l.length + m) l.length 5 (by simp only [maxLen]; omega)
  have h3 := Bts.row (l := l ++ l2) (B := B) (c := grownCap w (l.length + m) l.length 5) (heap_alloc_new w.drew (.cells ((l.map (Value.int .u8)).toArray ++ (l2.map (Value.int .u8)).toArray ++ Builtin.zeroCells (Value.int .u8 0).cells (grownCap w (l.length + m) l.length 5 - (l.length + m))) 5)) hB (by rw [List.length_append, hm]; exact hge) hcm (by
    simp only [Array.size_append, List.size_toArray, List.length_map, size_zeroCells, hm]
    have : (Value.int .u8 0).cells.size = 1 := rfl
    rw [this]
    omega) (by
    simp only [Array.toList_append, List.map_append]
    have hl : (l ++ l2).length = (l.map (Value.int .u8) ++ l2.map (Value.int .u8)).length := by simp
    rw [hl]
    exact List.take_left)
  rw [List.length_append, hm] at h3
  exact h3
section
variable {o : Oper} {w b : World} {a : Act} {Q : Exit → Act → World → Prop} {ops : Array Oper} {rest : List Oper}
/-- append(v, x), the literal laid just before; said also where the old row stays. -/
theorem wpList_app2 {v : Value} {l : List Int} {u : Int} (x y : Operand) (hgd : o.guard = none) (ho : o.op = .call { callee := .builtin .append, args := #[x, y], argTypes := #[26, 26] }) (hx : a.eval x = v) (hy : a.eval y = .slice (some ⟨w.heap.size, 0, none⟩) 1 1)
    (hB : b.heap.size ≤ w.heap.size) (hv : BtsM w b.heap.size v l) (hbig : l.length + 1 ≤ 140737488355328)
    (hK : ∀ v' w', Bts w' b.heap.size v' (l ++ [u]) → (v'.ownBlock = v.ownBlock ∧ w.grownBy w' v.ownBlock ∨ (∃ k, v'.ownBlock = some k ∧ w.heap.size ≤ k) ∧ w.grownBy w' none) → wpList Tryd.prog ops Q rest (a.put o.dst v') w') : wpList Tryd.prog ops Q (o :: rest) a (w.alloc (.cells #[.int .u8 u] 5)) := by
  have hs : w.heap.size ≤ (w.alloc (.cells #[.int .u8 u] 5)).heap.size := by simp
  have tr : ∀ row w', (w.alloc (.cells #[.int .u8 u] 5)).grownBy w' row → w.grownBy w' row := fun row w' h => ⟨h.os, h.tape, h.output, Nat.le_trans hs h.size, fun k hk hne => (h.block k (Nat.lt_of_lt_of_le hk hs) hne).trans (Below.heap_alloc w _ k hk)⟩
  rcases hv with hv | ⟨g, rfl, hBg, hg, hm⟩
  · obtain ⟨v', w', h3, h4, h5, h6⟩ := run_app (l2 := [u]) o.type (hv.alloc (.cells #[.int .u8 u] 5)) rfl (bytesIn_one w u) (fun h => by cases h) (Nat.le_trans hB hs) hbig (c := 1)
    have h7 := run_app_where (l2 := [u]) o.type Nat.one_pos (hv.alloc (.cells #[.int .u8 u] 5)) rfl (bytesIn_one w u) hbig h3
    refine wpList_step fun K hKK => if_always hgd (wp_append_run x y _ ho hx hy h3 (hKK _ _ (hK v' w' h4 ?_)))
    rcases h7 with h7 | ⟨h7, h8⟩
    · exact .inl ⟨h7, tr _ _ h5⟩
    · exact .inr ⟨⟨_, h7, hs⟩, tr _ _ h8⟩
  · have hg2 : (w.alloc (.cells #[.int .u8 u] 5)).heap[g]? = some (.cells (vals l) 5 (l.length, l.length + 1)) := by
      rw [Below.heap_alloc w _ g (Array.getElem?_eq_some_iff.1 hg).1, hg]
    obtain ⟨v', w', h3, h4, h5, h6⟩ := run_app_full (l2 := [u]) o.type Nat.one_pos hg2 rfl (bytesIn_one w u) (Nat.le_trans hB hs) hbig (c := 1)
    exact wpList_step fun K hKK => if_always hgd (wp_append_run x y _ ho hx hy h3 (hKK _ _ (hK v' w' h4 (.inr ⟨⟨_, h5, hs⟩, tr _ _ h6⟩))))
end
def pb (p : Option Addr) : Option Nat := p.map (·.block)
theorem pb_own (p : Option Addr) (n c : Nat) : (Value.slice p n c).ownBlock = pb p := by cases p <;> rfl
/-- The lists that Apart looks at: where each lies, its length and room. -/
structure Lists where
  n : Nat
  P : Nat → Option Addr
  ln : Nat → Nat
  C : Nat → Nat
def Lists.V (R : Lists) (j : Nat) : Value := .slice (R.P j) (R.ln j) (R.C j)
/-- No two of them lie in one block; each is short enough. -/
structure Lists.Fair (R : Lists) : Prop where
  few : R.n ≤ 1000
  short : ∀ j, j < R.n → R.ln j ≤ 1099511627776
  apart : ∀ i j, i < R.n → j < R.n → i ≠ j → pb (R.P i) = none ∨ pb (R.P i) ≠ pb (R.P j)
/-- The list of lists: its elements, in a block of its own, below S. -/
def Out (w : World) (p : Option Addr) (R : Lists) (S : Nat) : Prop := ∀ k, k < R.n → ∃ a, p = some a ∧ a.block < S ∧ S ≤ w.heap.size ∧ w.cell? (a.add k) = some (R.V k) ∧ ∀ j, j < R.n → pb (R.P j) ≠ some a.block
theorem Out.grown {w w' : World} {p : Option Addr} {R : Lists} {S : Nat} {row : Option Nat} (h : Out w p R S) (hg : w.grownBy w' row) (hne : ∀ x, row = some x → (∃ j, j < R.n ∧ pb (R.P j) = some x) ∨ S ≤ x) : Out w' p R S := fun k hk => by
  obtain ⟨a, e, h1, h2, h3, h4⟩ := h k hk
  refine ⟨a, e, h1, Nat.le_trans h2 hg.size, ?_, h4⟩
  have hb : some a.block ≠ row := fun e => by
    rcases hne _ e.symm with ⟨j, hj, e2⟩ | h5
    · exact h4 j hj e2
    · omega
  rw [← h3]
  exact World.cell?_of_block (by rw [add_block]; exact hg.block _ (Nat.lt_of_lt_of_le h1 h2) hb)
/-- The first round, at place m of list i. -/
structure Ph1 (b : World) (p : Option Addr) (R : Lists) (S : Nat) (w : World) (i m : Nat) : Prop where
  below : Below b.heap.size b w
  out : Out w p R S
  rows : ∀ j, j < R.n → ∃ l, l.length = R.ln j ∧ BtsM w b.heap.size (R.V j) l ∧ (j < i → l = marks j (R.ln j)) ∧ (j = i → l.take m = marks i m)
theorem Ph1.under {b w w' : World} {p : Option Addr} {R : Lists} {S i m : Nat} (h : Ph1 b p R S w i m) (hb : Below w.heap.size w w') : Ph1 b p R S w' i m :=
  ⟨below_call hb h.below, h.out.grown (grown_of_below hb none) (fun x e => by cases e), fun j hj => by
    obtain ⟨l, h1, h2, h3⟩ := h.rows j hj
    exact ⟨l, h1, h2.under hb, h3⟩⟩
theorem Ph1.start {b w : World} {p : Option Addr} {R : Lists} {S : Nat} (hb : Below b.heap.size b w) (ho : Out w p R S) (hv : ∀ j, j < R.n → ∃ l, l.length = R.ln j ∧ BtsM w b.heap.size (R.V j) l) : Ph1 b p R S w 0 0 :=
  ⟨hb, ho, fun j hj => by
    obtain ⟨l, h1, h2⟩ := hv j hj
    exact ⟨l, h1, h2, fun h => by omega, fun _ => rfl⟩⟩
theorem Ph1.next {b w : World} {p : Option Addr} {R : Lists} {S i : Nat} (h : Ph1 b p R S w i (R.ln i)) : Ph1 b p R S w (i + 1) 0 :=
  ⟨h.below, h.out, fun j hj => by
    obtain ⟨l, h1, h2, h3, h4⟩ := h.rows j hj
    refine ⟨l, h1, h2, fun hlt => ?_, fun _ => rfl⟩
    rcases Nat.lt_or_ge j i with h5 | h5
    · exact h3 h5
    · obtain rfl : j = i := by omega
      have := h4 rfl
      rwa [← h1, List.take_length, h1] at this⟩
theorem take_set_here {l : List Int} {m : Nat} {u : Int} {L : List Int} (hm : m < l.length) (h : l.take m = L) : (l.set m u).take (m + 1) = L ++ [u] := by
  rw [List.take_succ_eq_append_getElem (by simpa using hm), List.getElem_set_self, List.take_set_of_le (Nat.le_refl _), h]
/-- A mark is written. -/
theorem Ph1.mark {b w : World} {p : Option Addr} {R : Lists} {S i m : Nat} (hR : R.Fair) (h : Ph1 b p R S w i m) (hi : i < R.n) (hm : m < R.ln i) :
    ∃ g, R.P i = some ⟨g, 0, none⟩ ∧ R.ln i ≤ R.C i ∧ (∃ u, w.cell? ⟨g, m, none⟩ = some (.int .u8 u)) ∧ w.frozen? ⟨g, m, none⟩ = false ∧ Ph1 b p R S (w.setCell ⟨g, m, none⟩ (.int .u8 (mkB i m))) i (m + 1) := by
  obtain ⟨l, h1, h2, h3, h4⟩ := h.rows i hi
  obtain ⟨q, c, e, hbi, hpn, hbl, hlc, hcm⟩ := h2.open
  rw [Lists.V] at e h2
  injection e with e1 e2 e3
  obtain ⟨a, ea, _, hc⟩ := hbi m (by omega)
  rw [ea] at e1
  obtain ⟨g, o, s⟩ := a
  obtain ⟨_, e4, hB⟩ := hbl _ ea
  injection e4 with _ e5 e6
  subst e5; subst e6
  rw [add_lit] at hc
  rw [e1] at h2
  have hst := h2.stored m (mkB i m)
  have hbel : Below b.heap.size b (w.setCell ⟨g, m, none⟩ (.int .u8 (mkB i m))) := belowM_grown h.below h2 h.below.size hst.2
  refine ⟨g, e1, by omega, ⟨_, hc⟩, h2.free m (by omega), hbel, h.out.grown hst.2 (fun x e => ?_), fun j hj => ?_⟩
  · injection e with e
    exact .inl ⟨i, hi, by rw [e1, ← e]; rfl⟩
  · by_cases hji : j = i
    · subst hji
      refine ⟨l.set m (mkB j m), by rw [List.length_set, h1], ?_, fun h => by omega, fun _ => ?_⟩
      · rw [Lists.V, e1]; exact hst.1
      · rw [take_set_here (by omega) (h4 rfl), marks_succ]
    · obtain ⟨l2, k1, k2, k3, _⟩ := h.rows j hj
      refine ⟨l2, k1, k2.kept hst.2 ?_, k3, fun h => absurd h hji⟩
      rw [Lists.V, pb_own]
      rcases hR.apart j i hj hi hji with h5 | h5
      · exact .inl h5
      · rw [e1] at h5
        exact .inr h5
/-- The second round: i lists have been grown; those from t on are as they were. -/
structure Ph2 (b : World) (p : Option Addr) (R : Lists) (S : Nat) (w : World) (gv : Value) (rs : List Row1) (i t : Nat) : Prop where
  below : Below b.heap.size b w
  out : Out w p R S
  size : S ≤ w.heap.size
  todo : ∀ j, t ≤ j → j < R.n → BtsM w b.heap.size (R.V j) (marks j (R.ln j))
  done : ∀ j, j < i → BytesIn w (R.P j) (marks j (R.ln j))
  own : RowsOwn w b.heap.size gv rs
  len : rs.length = i
  rows : ∀ (j : Nat) (r : Row1), rs[j]? = some r → r.2.2 = marks j (R.ln j + 70) ∧ (pb r.1 = pb (R.P j) ∨ ∃ x, pb r.1 = some x ∧ S ≤ x)
  far : ∀ x, gv.ownBlock = some x → S ≤ x
theorem Ph2.start {b w : World} {p : Option Addr} {R : Lists} {S : Nat} (hs : S ≤ w.heap.size) (h : Ph1 b p R S w R.n 0) : Ph2 b p R S w (.slice none 0 0) [] 0 0 :=
  ⟨h.below, h.out, hs, fun j _ hj => by
    obtain ⟨l, h1, h2, h3, _⟩ := h.rows j hj
    rw [h3 hj] at h2
    exact h2, fun j hj => by omega, rowsOwn_nil _ _, rfl, fun j r h => by simp at h, fun x h => by cases h⟩
theorem pb_some {p : Option Addr} {a : Addr} (h : p = some a) : pb p = some a.block := by rw [h]; rfl
theorem far_of {p : Option Addr} {row : Option Nat} (h : pb p = none ∨ pb p ≠ row) : ∀ a, p = some a → some a.block ≠ row := fun a ha e => by
  rw [pb_some ha] at h
  rcases h with h | h
  · cases h
  · exact h e
/-- .. list i is being grown: g is what it has grown to. -/
structure Grw (b : World) (R : Lists) (T : Nat) (w : World) (gv : Value) (rs : List Row1) (i : Nat) (g : Value) (k : Nat) : Prop where
  bts : BtsM w b.heap.size g (marks i (R.ln i + k))
  here : BytesIn w (R.P i) (marks i (R.ln i))
  head : ∀ a, R.P i = some a → a = ⟨a.block, 0, none⟩
  blk : g.ownBlock = pb (R.P i) ∨ ∃ x, g.ownBlock = some x ∧ T ≤ x
theorem Ph2.grw {b w : World} {p : Option Addr} {R : Lists} {S : Nat} {gv : Value} {rs : List Row1} {i : Nat} (h : Ph2 b p R S w gv rs i i) (hi : i < R.n) (T : Nat) :
    Ph2 b p R S w gv rs i (i + 1) ∧ Grw b R T w gv rs i (R.V i) 0 := by
  have h1 := h.todo i (Nat.le_refl _) hi
  refine ⟨⟨h.below, h.out, h.size, fun j hj => h.todo j (by omega), h.done, h.own, h.len, h.rows, h.far⟩, h1, h1.bytesIn, fun a ha => ?_, .inl (pb_own ..)⟩
  obtain ⟨q, c, e, _, _, h2, _⟩ := h1.open
  rw [Lists.V] at e
  injection e with e1 _ _
  exact (h2 a (e1 ▸ ha)).2.1
theorem Ph2.grown {b w w' : World} {p : Option Addr} {R : Lists} {S T : Nat} {gv : Value} {rs : List Row1} {i : Nat} {row : Option Nat} (hR : R.Fair) (h : Ph2 b p R S w gv rs i (i + 1)) (hi : i < R.n) (hST : S ≤ T) (hS : ∀ j, j < R.n → ∀ x, pb (R.P j) = some x → x < S)
    (hT : ∀ x, gv.ownBlock = some x → x < T) (hT2 : ∀ r : Row1, r ∈ rs → ∀ x, pb r.1 = some x → x < T) (hg : w.grownBy w' row) (hbe : Below b.heap.size b w') (hrow : row = none ∨ row = pb (R.P i) ∨ ∃ x, row = some x ∧ T ≤ x) : Ph2 b p R S w' gv rs i (i + 1) := by
  have hj : ∀ j, j < R.n → j ≠ i → pb (R.P j) = none ∨ pb (R.P j) ≠ row := fun j hj hne => by
    rcases hrow with rfl | rfl | ⟨x, rfl, hx⟩
    · cases pb (R.P j) <;> simp
    · exact hR.apart j i hj hi hne
    · exact .inr fun e => by have := hS j hj x e; omega
  have hgv : gv.ownBlock = none ∨ gv.ownBlock ≠ row := by
    rcases hrow with rfl | rfl | ⟨x, rfl, hx⟩
    · cases gv.ownBlock <;> simp
    · cases e : gv.ownBlock with
      | none => exact .inl rfl
      | some y => exact .inr fun e2 => by have h1 := h.far y e; have h2 := hS i hi y e2.symm; omega
    · exact .inr fun e => by have := hT x e; omega
  have hrs : ∀ (j : Nat) (r : Row1), rs[j]? = some r → pb r.1 = none ∨ pb r.1 ≠ row := fun j r hr => by
    have hjl : j < i := by rw [← h.len]; exact (List.getElem?_eq_some_iff.1 hr).1
    rcases (h.rows j r hr).2 with e | ⟨x, e, hx⟩
    · rw [e]; exact hj j (by omega) (by omega)
    · rcases hrow with rfl | rfl | ⟨y, rfl, hy⟩
      · exact .inr (by rw [e]; simp)
      · exact .inr fun e2 => by rw [e] at e2; have := hS i hi x e2.symm; omega
      · exact .inr fun e2 => by have := hT2 r (List.mem_of_getElem? hr) y e2; omega
  refine ⟨hbe, h.out.grown hg (fun x e => ?_), Nat.le_trans h.size hg.size, fun j h1 h2 => (h.todo j h1 h2).kept hg ?_, fun j h1 => (h.done j h1).far hg (far_of (hj j (by omega) (by omega))), ⟨World.ownsRow.kept h.own.1 hg hgv, fun r hr => ?_⟩, h.len, h.rows, h.far⟩
  · rcases hrow with rfl | rfl | ⟨y, rfl, hy⟩
    · cases e
    · exact .inl ⟨i, hi, e⟩
    · injection e with e; exact .inr (by omega)
  · rw [Lists.V, pb_own]; exact hj j h2 (by omega)
  · obtain ⟨j, hj2⟩ := List.mem_iff_getElem?.1 hr
    exact ⟨(h.own.2 r hr).1.far hg (far_of (hrs j r hj2)), (h.own.2 r hr).2⟩
/-- A mark is appended. -/
theorem Grw.step {b w w' : World} {R : Lists} {T : Nat} {gv g g' : Value} {rs : List Row1} {i k : Nat} (h : Grw b R T w gv rs i g k) (hT : T ≤ w.heap.size) (hP : ∀ x, pb (R.P i) = some x → x < T) (hb : Bts w' b.heap.size g' (marks i (R.ln i + k) ++ [mkB i (R.ln i + k)]))
    (hw : g'.ownBlock = g.ownBlock ∧ w.grownBy w' g.ownBlock ∨ (∃ x, g'.ownBlock = some x ∧ w.heap.size ≤ x) ∧ w.grownBy w' none) : Grw b R T w' gv rs i g' (k + 1) := by
  rw [marks_succ] at hb
  refine ⟨.inl hb, ?_, h.head, ?_⟩
  · rcases hw with ⟨e, hg⟩ | ⟨_, hg⟩
    · rcases h.blk with e2 | ⟨x, e2, hx⟩
      · -- grown where it lies
        obtain ⟨q, c, e3, h1, h2, h3, _⟩ := hb.open
        intro m hm
        rw [marks_len] at hm
        obtain ⟨a, ea, h4, h5⟩ := h1 m (by rw [marks_len]; omega)
        obtain ⟨a0, ea0, h40, h50⟩ := h.here m (by rw [marks_len]; exact hm)
        have hq := h3 a ea
        have e4 : some a.block = some a0.block := by rw [← hq.1, e, e2, ea0]; rfl
        injection e4 with e4
        have hoff := h.head a0 ea0
        refine ⟨a0, ea0, by rw [← e4]; exact h4, ?_⟩
        rw [hoff, ← e4, ← hq.2.1, h5, marks_nth (by omega), marks_nth hm]
      · exact h.here.far hg (fun a ha e3 => by
        rw [e2] at e3
        have := hP x (by rw [pb_some ha]; exact e3)
        omega)
    · exact h.here.far hg (fun _ _ e => by cases e)
  · rcases hw with ⟨e, _⟩ | ⟨⟨x, e, hx⟩, _⟩
    · rw [e]; exact h.blk
    · exact .inr ⟨x, e, by omega⟩
theorem tSl : CellT Tryd.prog 26 := ⟨_, Tryd.underlying26, rfl⟩
theorem tU8 : CellT Tryd.prog 5 := ⟨_, Tryd.underlying5, rfl⟩
theorem neqB {p q : Operand} (x : Int) (w : World) : (do eqGuard .neq 5 p q (.int .u8 x) (.int .u8 x); binOp .neq 5 (.int .u8 x) (.int .u8 x) : Sem Value).run Tryd.prog w = .ok (.bool false) w := by
  go_simp
theorem lss_yes {p q : Operand} {a b : Int} (h : a < b) (w : World) : (do eqGuard .lss 3 p q (.int .i64 a) (.int .i64 b); binOp .lss 3 (.int .i64 a) (.int .i64 b) : Sem Value).run Tryd.prog w = .ok (.bool true) w := by
  rw [← decide_eq_true h]; rfl
theorem lss_no {p q : Operand} {a b : Int} (h : ¬ a < b) (w : World) : (do eqGuard .lss 3 p q (.int .i64 a) (.int .i64 b); binOp .lss 3 (.int .i64 a) (.int .i64 b) : Sem Value).run Tryd.prog w = .ok (.bool false) w := by
  rw [← decide_eq_false h]; rfl
theorem mark_ev (i k : Nat) (x : Int) (hx : x = (k : Int)) (hi : i ≤ 1000000) (hk : k ≤ 281474976710656) (w : World) : Calls Tryd.prog 52 #[.int .i64 i, .int .i64 x] w (Gives (· = .int .u8 (mkB i k)) w) := by
  subst hx
  exact mark_any i k hi hk w
theorem Out.at {w : World} {a : Addr} {R : Lists} {S k : Nat} (h : Out w (some a) R S) (hk : k < R.n) : a.block < w.heap.size ∧ w.cell? (a.add k) = some (.slice (R.P k) (R.ln k) (R.C k)) := by
  obtain ⟨a', e, h1, h2, h3, _⟩ := h k hk
  injection e with e
  subst e
  exact ⟨by omega, h3⟩
theorem Out.cells {w : World} {a : Addr} {R : Lists} {S k : Nat} (h : Out w (some a) R S) (hk : k < R.n) : ∀ w', Below w.heap.size w w' → w'.cell? (a.add (k * 1)) = some (.slice (R.P k) (R.ln k) (R.C k)) := fun w' hb => by
  rw [Nat.mul_one, ← (h.at hk).2]
  exact World.cell?_of_block (by rw [add_block]; exact hb.block _ (h.at hk).1)
theorem Ph2.under {b w w' : World} {p : Option Addr} {R : Lists} {S : Nat} {gv : Value} {rs : List Row1} {i : Nat} (hR : R.Fair) (h : Ph2 b p R S w gv rs i (i + 1)) (hi : i < R.n) (hS : ∀ j, j < R.n → ∀ x, pb (R.P j) = some x → x < S) (hb : Below w.heap.size w w') : Ph2 b p R S w' gv rs i (i + 1) :=
  h.grown (T := w.heap.size) hR hi h.size hS (fun x e => (h.own.lt x e).2) (fun r hr x e => by
    obtain ⟨p, c, l⟩ := r
    cases p with
    | none => cases e
    | some a => injection e with e; rw [← e]; exact (h.own.2 _ hr).1.2.2 a rfl) (grown_of_below hb none) (below_call hb h.below) (.inl rfl)
theorem Grw.under {b w w' : World} {R : Lists} {T : Nat} {gv g : Value} {rs : List Row1} {i k : Nat} (h : Grw b R T w gv rs i g k) (hb : Below w.heap.size w w') : Grw b R T w' gv rs i g k :=
  ⟨h.bts.under hb, h.here.keep hb, h.head, h.blk⟩
theorem Ph2.blocks {b w : World} {p : Option Addr} {R : Lists} {S : Nat} {gv : Value} {rs : List Row1} {i t : Nat} (h : Ph2 b p R S w gv rs i t) : (∀ x, gv.ownBlock = some x → x < w.heap.size) ∧ ∀ r : Row1, r ∈ rs → ∀ x, pb r.1 = some x → x < w.heap.size :=
  ⟨fun x e => (h.own.lt x e).2, fun r hr x e => by
    obtain ⟨p, c, l⟩ := r
    cases p with
    | none => cases e
    | some a => injection e with e; rw [← e]; exact (h.own.2 _ hr).1.2.2 a rfl⟩
/-- A list that has been grown joins the others. -/
theorem Ph2.join {b w w' : World} {p : Option Addr} {R : Lists} {S T : Nat} {gv gv' g : Value} {rs : List Row1} {i : Nat} {pg : Option Addr} {cg : Nat} (h : Ph2 b p R S w gv rs i (i + 1)) (hG : Grw b R T w gv rs i g 70) (hi : i < R.n) (hST : S ≤ T) (hS : ∀ j, j < R.n → ∀ x, pb (R.P j) = some x → x < S)
    (eg : g = .slice pg (R.ln i + 70) cg) (hgr : w.grownBy w' gv.ownBlock) (hbe : Below b.heap.size b w') (ho : RowsOwn w' b.heap.size gv' (rs ++ [(pg, cg, marks i (R.ln i + 70))])) (hw : gv'.ownBlock = gv.ownBlock ∨ ∃ k, gv'.ownBlock = some k ∧ w.heap.size ≤ k) :
    Ph2 b p R S w' gv' (rs ++ [(pg, cg, marks i (R.ln i + 70))]) (i + 1) (i + 1) := by
  have hj : ∀ j, j < R.n → pb (R.P j) = none ∨ pb (R.P j) ≠ gv.ownBlock := fun j hj => by
    cases e : gv.ownBlock with
    | none => cases pb (R.P j) <;> simp
    | some y => exact .inr fun e2 => by have h1 := h.far y e; have h2 := hS j hj y e2; omega
  have hln := h.len
  refine ⟨hbe, h.out.grown hgr (fun x e => .inr (h.far x e)), Nat.le_trans h.size hgr.size, fun j h1 h2 => (h.todo j h1 h2).kept hgr ?_, fun j h1 => ?_, ho, by simp [hln], fun j r hr => ?_, fun x e => ?_⟩
  · rw [Lists.V, pb_own]; exact hj j h2
  · rcases Nat.lt_or_ge j i with h2 | h2
    · exact (h.done j h2).far hgr (far_of (hj j (by omega)))
    · obtain rfl : j = i := by omega
      exact hG.here.far hgr (far_of (hj j hi))
  · rw [List.getElem?_append] at hr
    split at hr
    · exact h.rows j r hr
    · rename_i h2
      rw [List.getElem?_singleton] at hr
      split at hr
      · rename_i h3
        injection hr with hr
        subst hr
        obtain rfl : j = i := by omega
        refine ⟨rfl, ?_⟩
        have h4 := hG.blk
        rw [eg, pb_own] at h4
        rcases h4 with h4 | ⟨x, h4, h5⟩
        · exact .inl h4
        · exact .inr ⟨x, h4, by omega⟩
      · cases hr
  · rcases hw with e2 | ⟨k, e2, h2⟩
    · exact h.far x (e2 ▸ e)
    · rw [e2] at e; injection e with e; have := h.size; omega
theorem cell_later {w0 w w' : World} {x : Addr} {v : Value} (hB : Below w0.heap.size w0 w) (hb : Below w.heap.size w w') (hlt : x.block < w0.heap.size) (h : w0.cell? x = some v) : w'.cell? x = some v := by
  rw [← h]
  exact World.cell?_of_block ((below_call hb hB).block _ hlt)
theorem Ph2.appended {b w w3 w' : World} {p : Option Addr} {R : Lists} {S T : Nat} {gv g g' : Value} {rs : List Row1} {i k : Nat} (hR : R.Fair) (h : Ph2 b p R S w gv rs i (i + 1)) (hG : Grw b R T w gv rs i g k) (hi : i < R.n) (hST : S ≤ T) (hTw : T ≤ w.heap.size) (hS : ∀ j, j < R.n → ∀ x, pb (R.P j) = some x → x < S)
    (hT : (∀ x, gv.ownBlock = some x → x < T) ∧ ∀ r : Row1, r ∈ rs → ∀ x, pb r.1 = some x → x < T) (hb : Below w.heap.size w w3) (h1 : Bts w' b.heap.size g' (marks i (R.ln i + k) ++ [mkB i (R.ln i + k)]))
    (h2 : g'.ownBlock = g.ownBlock ∧ w3.grownBy w' g.ownBlock ∨ (∃ x, g'.ownBlock = some x ∧ w3.heap.size ≤ x) ∧ w3.grownBy w' none) : T ≤ w'.heap.size ∧ Ph2 b p R S w' gv rs i (i + 1) ∧ Grw b R T w' gv rs i g' (k + 1) := by
  have h3 := h.under hR hi hS hb
  have hG3 := hG.under hb
  have hT3 : T ≤ w3.heap.size := Nat.le_trans hTw hb.size
  refine ⟨?_, ?_, hG3.step hT3 (fun x e => Nat.lt_of_lt_of_le (hS i hi x e) hST) h1 h2⟩
  · rcases h2 with ⟨_, h2⟩ | ⟨_, h2⟩ <;> exact Nat.le_trans hT3 h2.size
  · rcases h2 with ⟨_, h2⟩ | ⟨_, h2⟩
    · exact h3.grown hR hi hST hS hT.1 hT.2 h2 (belowM_grown h3.below hG3.bts h3.below.size h2) (.inr hG.blk)
    · exact h3.grown hR hi hST hS hT.1 hT.2 h2 (h3.below.grown h2 h3.below.size (fun k hk => by cases hk)) (.inl rfl)
set_option maxHeartbeats 4000000 in
set_option maxRecDepth 100000 in
theorem apart_any (b w : World) (p : Option Addr) (n c S : Nat) (R : Lists) (hn : R.n = n) (hR : R.Fair) (hb : Below b.heap.size b w) (hSw : S ≤ w.heap.size) (ho : Out w p R S) (hv : ∀ j, j < R.n → ∃ l, l.length = R.ln j ∧ BtsM w b.heap.size (R.V j) l) (hS : ∀ j, j < R.n → ∀ x, pb (R.P j) = some x → x < S) :
    Calls Tryd.prog 23 #[.slice p n c] w (fun e w' => e = .returned (.bool true) ∧ Below b.heap.size b w') := by
  have H0 := Lib.hid (Ph1.start hb ho hv)
  have HN := Lib.hid hn
  have HR := Lib.hid hR
  have HS0 := Lib.hid hS
  have HSW := Lib.hid hSw
  have hfew : n ≤ 1000 := hn ▸ hR.few
  clear hb ho hv hn hR hS hSw
  go_enter Tryd.func23, Tryd.ntmps23
  go_wp2
  go_loopw [3] (fun i wr => ∃ k, k ≤ n ∧ i = .int .i64 (k : Nat) ∧ S ≤ wr.heap.size ∧ Ph1 b p R S wr k 0) (fun i _ => n - (intOf i).toNat)
  case atStart => exact ⟨0, by omega, rfl, HSW.out, H0.out⟩
  case round =>
    obtain ⟨k, hk, rfl, hsw, h1⟩ := hrel
    have HW := Lib.hid hsw
    have H1 := Lib.hid h1
    clear hsw h1 H0 HSW
    by_cases hlt : k < n
    · have hlr : k < R.n := HN.out ▸ hlt
      obtain ⟨ad, rfl, _⟩ := H1.out.out k hlr
      have HLR := Lib.hid hlr
      have hln : R.ln k ≤ 1099511627776 := HR.out.short k hlr
      have hc1 := (H1.out.out.at hlr).2
      clear hlr
      go_wp2
      go_loopw [4] (fun i wr => ∃ m, m ≤ R.ln k ∧ i = .int .i64 (m : Nat) ∧ S ≤ wr.heap.size ∧ Ph1 b (some ad) R S wr k m) (fun i _ => R.ln k - (intOf i).toNat)
      case atStart => exact ⟨0, by omega, rfl, HW.out, H1.out⟩
      case round =>
        clear H1 HW hc1
        obtain ⟨m, hm, rfl, hsw, h1⟩ := hrel
        have HW := Lib.hid hsw
        have H1 := Lib.hid h1
        have hc1 := (H1.out.out.at HLR.out).2
        clear hsw h1
        by_cases hmt : m < R.ln k
        · obtain ⟨g, hPg, hCg, _⟩ := H1.out.mark HR.out HLR.out hmt
          have HPG := Lib.hid hPg
          have hcs := H1.out.out.cells HLR.out
          rw [hPg] at hc1 hcs
          have HC := Lib.hid hcs
          clear hcs hPg hCg
          go_wp2
          clear hc1
          have hS := Own.start wr
          obtain ⟨M, hM⟩ : ∃ M, M = wr.heap.size := ⟨_, rfl⟩
          refine hide_frame fun t0 HT => ?_
          have HS : t0.size = 113 := by rw [HT]; rfl
          have h0 : t0[0]? = some (.slice (some ad) n c) := by rw [HT]; rfl
          have h3 : t0[3]? = some (.int .i64 k) := by rw [HT]; rfl
          have h4 : t0[4]? = some (.int .i64 m) := by rw [HT]; rfl
          refine wp_region_most 9 (fun i => [26, 27, 28, 29, 30, 31, 32, 33, 34].getD i 0) (fun _ => none) (fun i => [(· = .slice (some ad) n c), (· = .int .i64 k), (· = .pointer (some (ad.add (k * 1)))), (· = .slice (some ⟨g, 0, none⟩) (R.ln k) (R.C k)), (· = .int .i64 m), (· = .int .i64 k), (· = .int .i64 m), (· = .int .u8 (mkB k m)), (· = .pointer (some ((⟨g, 0, none⟩ : Addr).add (m * 1))))].getD i (fun _ => True)) (fun w' => Own wr [] w' ∧ M ≤ w'.heap.size) M
            (by kernel_rfl) (by kernel_rfl) (slots_apart (by kernel_rfl)) (slots_lie (by rw [HS]; kernel_rfl)) ⟨hS.drew, Nat.le_of_eq hM⟩ (fun w' h => h.2) (fun w1 w2 h b => ⟨h.1.keep b, Nat.le_trans h.2 b.size⟩) ?_ ?_ ?_
          · clear hS
            intro i o hi ho hA
            have hc : i = 0 ∨ i = 1 ∨ i = 2 ∨ i = 3 ∨ i = 4 ∨ i = 5 ∨ i = 6 ∨ i = 7 ∨ i = 8 := by omega
            rcases hc with rfl | rfl | rfl | rfl | rfl | rfl | rfl | rfl | rfl
            · obtain rfl := Option.some.inj ho
              refine ⟨rfl, fun a w' hS hold hin K hK => ?_⟩
              refine if_always rfl ?_
              exact op_move (V := (· = .slice (some ad) n c)) _ _ rfl rfl (eval_tmp ((hold 0 (slots_not (by kernel_rfl))).trans h0)) rfl hK
            · obtain rfl := Option.some.inj ho
              refine ⟨rfl, fun a w' hS hold hin K hK => ?_⟩
              refine if_always rfl ?_
              exact op_move (V := (· = .int .i64 k)) _ _ rfl rfl (eval_tmp ((hold 3 (slots_not (by kernel_rfl))).trans h3)) rfl hK
            · obtain rfl := Option.some.inj ho
              refine ⟨rfl, fun a w' hS hold hin K hK => ?_⟩
              obtain ⟨y0, x0, rfl⟩ := hin 0 rfl (by omega) rfl
              obtain ⟨y1, x1, rfl⟩ := hin 1 rfl (by omega) rfl
              refine if_always rfl ?_
              exact op_index 1 26 (by kernel_rfl) (by kernel_rfl) _ _ rfl rfl _ _ _ (eval_tmp x0) _ k (eval_tmp x1) hlt hK
            · obtain rfl := Option.some.inj ho
              refine ⟨rfl, fun a w' hS hold hin K hK => ?_⟩
              obtain ⟨y2, x2, rfl⟩ := hin 2 rfl (by omega) rfl
              refine if_always rfl ?_
              exact op_cell tSl _ (ad.add (k * 1)) rfl rfl (eval_tmp x2) (.slice (some ⟨g, 0, none⟩) (R.ln k) (R.C k)) (HC.out _ hS.1.1) hK
            · obtain rfl := Option.some.inj ho
              refine ⟨rfl, fun a w' hS hold hin K hK => ?_⟩
              refine if_always rfl ?_
              exact op_move (V := (· = .int .i64 m)) _ _ rfl rfl (eval_tmp ((hold 4 (slots_not (by kernel_rfl))).trans h4)) rfl hK
            · obtain rfl := Option.some.inj ho
              refine ⟨rfl, fun a w' hS hold hin K hK => ?_⟩
              refine if_always rfl ?_
              exact op_move (V := (· = .int .i64 k)) _ _ rfl rfl (eval_tmp ((hold 3 (slots_not (by kernel_rfl))).trans h3)) rfl hK
            · obtain rfl := Option.some.inj ho
              refine ⟨rfl, fun a w' hS hold hin K hK => ?_⟩
              refine if_always rfl ?_
              exact op_move (V := (· = .int .i64 m)) _ _ rfl rfl (eval_tmp ((hold 4 (slots_not (by kernel_rfl))).trans h4)) rfl hK
            · obtain rfl := Option.some.inj ho
              refine ⟨rfl, fun a w' hS hold hin K hK => ?_⟩
              obtain ⟨y5, x5, rfl⟩ := hin 5 rfl (by omega) rfl
              obtain ⟨y6, x6, rfl⟩ := hin 6 rfl (by omega) rfl
              refine if_always rfl ?_
              exact op_fn2 _ _ _ _ _ _ rfl rfl (eval_tmp x5) (eval_tmp x6) (by intro args w; kernel_rfl) (mark_ev k m _ rfl (by have := HN.out; have := HR.out.few; omega) (by omega) _) hK
            · obtain rfl := Option.some.inj ho
              refine ⟨rfl, fun a w' hS hold hin K hK => ?_⟩
              obtain ⟨y3, x3, rfl⟩ := hin 3 rfl (by omega) rfl
              obtain ⟨y4, x4, rfl⟩ := hin 4 rfl (by omega) rfl
              refine if_always rfl ?_
              exact op_index 1 5 (by kernel_rfl) (by kernel_rfl) _ _ rfl rfl _ _ _ (eval_tmp x3) _ m (eval_tmp x4) hmt hK
          · intro i o sz hi ho hA; cases hA
          clear hS
          intro t1 V1 hs hold hout hall hne hS
          have ef := frame_fill 9 (fun i => [26, 27, 28, 29, 30, 31, 32, 33, 34].getD i 0) hs hold (slots_apart (by kernel_rfl)) (slots_lie (by rw [HS]; kernel_rfl))
          replace HS := hs.trans HS
          replace hS := hS.1
          obtain ⟨_, q33, rfl⟩ : ∃ x, t1[33]? = some x ∧ x = (.int .u8 (mkB k m) : Value) := hout 7 (by omega) rfl
          obtain ⟨_, q34, rfl⟩ : ∃ x, t1[34]? = some x ∧ x = (.pointer (some ((⟨g, 0, none⟩ : Addr).add (m * 1))) : Value) := hout 8 (by omega) rfl
          replace h0 := (hold 0 (slots_not (by kernel_rfl))).trans h0
          replace h3 := (hold 3 (slots_not (by kernel_rfl))).trans h3
          replace h4 := (hold 4 (slots_not (by kernel_rfl))).trans h4
          clear hold hout hs hall hne
          simp only [List.drop_succ_cons, List.drop_zero]
          have g33 : t1.getD 33 undef = .int .u8 (mkB k m) := by rw [Array.getD_eq_getD_getElem?, q33]; rfl
          have g34 : t1.getD 34 undef = .pointer (some ((⟨g, 0, none⟩ : Addr).add (m * 1))) := by rw [Array.getD_eq_getD_getElem?, q34]; rfl
          rw [ef, HT]
          clear ef
          simp only [fillA, if_true, List.getD_cons_zero, List.getD_cons_succ, List.setIfInBounds_toArray, List.set_cons_zero, List.set_cons_succ, g33, g34]
          generalize t1.getD 26 undef = z26
          generalize t1.getD 27 undef = z27
          generalize t1.getD 28 undef = z28
          generalize t1.getD 29 undef = z29
          generalize t1.getD 30 undef = z30
          generalize t1.getD 31 undef = z31
          generalize t1.getD 32 undef = z32
          clear g33 g34 HT
          clear h0 h3 h4 q33 q34 hM HS t1 t0 M
          have HB1 := Lib.hid hS.1
          clear hS
          rw [Nat.mul_one, add_lit]
          have H1' := Lib.hid (H1.out.under HB1.out)
          clear H1
          obtain ⟨g', e', _, ⟨u, hcu⟩, hfr, hnx⟩ := H1'.out.mark HR.out HLR.out hmt
          rw [HPG.out] at e'
          injection e' with e'
          injection e' with e'
          subst e'
          have HNX := Lib.hid hnx
          clear hnx H1'
          go_wp2
          go_roundw
          case rel => exact ⟨m + 1, by omega, by go_num, by rw [World.size_setCell]; exact Nat.le_trans HW.out HB1.out.size, HNX.out⟩
          case measure => simp [intOf]; omega
        · obtain rfl : m = R.ln k := by omega
          go_wp2
          go_roundw
          case rel => exact ⟨k + 1, by omega, by go_num, HW.out, H1.out.next⟩
          case measure => simp [intOf]; omega
    · have hkn : n = k := by omega
      subst hkn
      have H2 := Lib.hid (Ph2.start HW.out (HN.out.symm ▸ H1.out))
      clear H1 HW
      go_wp2
      go_loopw [5, 6] (fun gv i wr => ∃ k rs, k ≤ n ∧ i = .int .i64 (k : Nat) ∧ Ph2 b p R S wr gv rs k k) (fun _ i _ => n - (intOf i).toNat)
      case atStart => exact ⟨0, _, by omega, rfl, H2.out⟩
      case round =>
        clear H2
        obtain ⟨k, rs, hk, rfl, h1⟩ := hrel
        have H1 := Lib.hid h1
        clear h1
        by_cases hlt : k < n
        · have hlr : k < R.n := HN.out ▸ hlt
          obtain ⟨ad, rfl, _⟩ := H1.out.out k hlr
          have HLR := Lib.hid hlr
          have hln : R.ln k ≤ 1099511627776 := HR.out.short k hlr
          obtain ⟨T, hT⟩ : ∃ T, T = wr.heap.size := ⟨_, rfl⟩
          obtain ⟨hp2, hgw⟩ := H1.out.grw hlr T
          have HP2 := Lib.hid hp2
          have HGW := Lib.hid hgw
          have HBK := Lib.hid H1.out.blocks
          have HSZ := Lib.hid H1.out.size
          have HTT := Lib.hid (Nat.le_of_eq hT)
          have hc1 := (H1.out.out.at hlr).2
          rw [← hT] at HBK HSZ
          clear hlr hp2 hgw H1 hT
          go_wp2
          go_loopw [7, 8] (fun g i wr => ∃ m, m ≤ 70 ∧ i = .int .i64 (m : Nat) ∧ T ≤ wr.heap.size ∧ Ph2 b (some ad) R S wr u5 rs k (k + 1) ∧ Grw b R T wr u5 rs k g m) (fun _ i _ => 70 - (intOf i).toNat)
          case atStart => exact ⟨0, by omega, rfl, HTT.out, HP2.out, HGW.out⟩
          case round =>
            clear HP2 HGW hc1 HTT
            obtain ⟨m, hm, rfl, htw, hp2, hgw⟩ := hrel
            have HTT := Lib.hid htw
            have HP2 := Lib.hid hp2
            have HGW := Lib.hid hgw
            have hc1 := (hp2.out.at HLR.out).2
            have hx1 := hp2.out.cells HLR.out
            simp only [Nat.mul_one] at hx1
            have HX1 := Lib.hid hx1
            clear htw hp2 hgw hx1
            by_cases hmt : m < 70
            · go_wp2_with first | (go_at_call 52; refine (mark_ev k (R.ln k + m) _ (by go_num) (by omega) (by omega) _).mono ?_; rintro e w3 ⟨_, rfl, rfl, hb3⟩; have HB3 := Lib.hid hb3; clear hb3) | (at_builtin; (refine held_append _ _ rfl ?_))
              have hgb := HGW.out.bts.under HB3.out
              refine wpList_app2 _ _ rfl rfl rfl rfl (Nat.le_trans (HP2.out.below.size) HB3.out.size) hgb (by rw [marks_len]; omega) fun v' w' h1 h2 => ?_
              have H1 := Lib.hid h1
              have H2 := Lib.hid h2
              have HAP := Lib.hid (HP2.out.appended HR.out HGW.out HLR.out HSZ.out HTT.out HS0.out HBK.out HB3.out h1 h2)
              clear h1 h2 hgb hc1 H1 H2
              go_wp2
              go_roundw
              case rel => exact ⟨m + 1, by omega, by go_num, HAP.out⟩
              case measure => simp [intOf]; omega
            · obtain rfl : m = 70 := by omega
              obtain ⟨pg, cg, rfl, hel, hob⟩ := HGW.out.bts.el
              have HEL := Lib.hid hel
              have HOB := Lib.hid hob
              clear hel hob hc1
              go_wp2_with (at_builtin; (refine held_append _ _ rfl ?_))
              refine wpList_appR (pg, cg, marks k (R.ln k + 70)) _ _ rfl rfl rfl rfl HP2.out.below HP2.out.own HEL.out (fun a ha e => ?_) (by have := HP2.out.len; have := hfew; omega) fun v' w' h1 h2 h3 h4 => ?_
              · have hk1 := HOB.out a ha
                rcases HGW.out.blk with h5 | ⟨x, h5, h6⟩
                · rw [hk1] at h5
                  have h7 := HP2.out.far _ e.symm
                  have h8 := HS0.out k HLR.out _ h5.symm
                  omega
                · rw [hk1] at h5
                  injection h5 with h5
                  have h7 := HBK.out.1 _ e.symm
                  omega
              have HJ := Lib.hid (HP2.out.join HGW.out HLR.out HSZ.out HS0.out (by rw [marks_len]) h3 h2 h1 h4)
              clear h1 h2 h3 h4
              go_wp2
              go_roundw
              case rel => exact ⟨k + 1, _, by omega, by go_num, HJ.out⟩
              case measure => simp [intOf]; omega
        · have hkn : n = k := by omega
          subst hkn
          obtain ⟨pg, cg, rfl, hri, _⟩ := H1.out.own.open
          have HRI := Lib.hid hri
          clear hri
          rw [H1.out.len]
          go_wp2
          go_loopw [9] (fun i w2 => ∃ k, k ≤ n ∧ i = .int .i64 (k : Nat) ∧ Below wr.heap.size wr w2) (fun i _ => n - (intOf i).toNat)
          case atStart => exact ⟨0, by omega, rfl, Below.refl _ _⟩
          case round =>
            obtain ⟨k, hk, rfl, hb⟩ := hrel
            have HB := Lib.hid hb
            clear hb
            by_cases hlt : k < n
            · have hlr : k < R.n := HN.out ▸ hlt
              obtain ⟨ad, rfl, _⟩ := H1.out.out k hlr
              have HLR := Lib.hid hlr
              have hln : R.ln k ≤ 1099511627776 := HR.out.short k hlr
              obtain ⟨r, hr⟩ : ∃ r, rs[k]? = some r := ⟨_, List.getElem?_eq_getElem (by rw [H1.out.len]; exact hlt)⟩
              obtain ⟨ag, rfl, hag, hcg⟩ := HRI.out.1 k r hr
              have hrr := (H1.out.rows k r hr).1
              have hr2 := (HRI.out.2 r (List.mem_of_getElem? hr)).1
              clear hr hlr
              obtain ⟨rp, rc, rl⟩ := r
              simp only at hrr hr2 hcg
              subst hrr
              obtain ⟨a1, rfl, _⟩ := hr2 0 (by rw [marks_len]; omega)
              rw [marks_len] at hcg
              have hd := H1.out.done k hlt
              have HCG := Lib.hid (show ∀ w1 w2, Below _ _ w1 → Below w1.heap.size w1 w2 → w2.cell? (ag.add k) = some (.slice (some a1) (R.ln k + 70) rc) from fun w1 w2 h1 h2 => cell_later h1 h2 (by rw [add_block]; exact hag) hcg)
              have HXX := Lib.hid (show ∀ w1 w2, Below _ _ w1 → Below w1.heap.size w1 w2 → ∀ m, m < R.ln k + 70 → w2.cell? (a1.add m) = some (.int .u8 (mkB k m)) from fun w1 w2 h1 h2 m hm => by
                obtain ⟨_, e, h3, h4⟩ := hr2 m (by rw [marks_len]; exact hm)
                injection e with e
                subst e
                rw [marks_nth hm] at h4
                exact cell_later h1 h2 (by rw [add_block]; exact h3) h4)
              have HCC := Lib.hid (show ∀ w1 w2, Below _ _ w1 → Below w1.heap.size w1 w2 → w2.cell? (ad.add k) = some (.slice (R.P k) (R.ln k) (R.C k)) from fun w1 w2 h1 h2 => cell_later h1 h2 (by rw [add_block]; exact (H1.out.out.at HLR.out).1) (H1.out.out.at HLR.out).2)
              have HYY := Lib.hid (show ∀ m, m < R.ln k → ∃ a2, R.P k = some a2 ∧ ∀ w1 w2, Below _ _ w1 → Below w1.heap.size w1 w2 → w2.cell? (a2.add m) = some (.int .u8 (mkB k m)) from fun m hm => by
                obtain ⟨a2, e, h3, h4⟩ := hd m (by rw [marks_len]; exact hm)
                rw [marks_nth hm] at h4
                exact ⟨a2, e, fun w1 w2 h1 h2 => cell_later h1 h2 (by rw [add_block]; exact h3) h4⟩)
              clear hd hr2 hag hcg
              have hc1 := HCG.out _ _ HB.out (Below.refl _ _)
              go_wp2
              go_loopw [10] (fun i w2 => ∃ m, m ≤ R.ln k + 70 ∧ i = .int .i64 (m : Nat) ∧ Below _ _ w2) (fun i _ => R.ln k + 70 - (intOf i).toNat)
              case atStart => exact ⟨0, by omega, rfl, HB.out⟩
              case round =>
                clear HB hc1
                obtain ⟨m, hm, rfl, hb⟩ := hrel
                have HB := Lib.hid hb
                clear hb
                have hc1 := HCG.out _ _ HB.out (Below.refl _ _)
                by_cases hmt : m < R.ln k + 70
                · have HG := Lib.hid (show ∀ w2, Below wr.heap.size wr w2 → w2.cell? (ag.add (k * 1)) = some (.slice (some a1) (R.ln k + 70) rc) from fun w2 h2 => by rw [Nat.mul_one]; exact HCG.out _ _ HB.out h2)
                  have HX := Lib.hid (show ∀ w2, Below wr.heap.size wr w2 → w2.cell? (a1.add (m * 1)) = some (.int .u8 (mkB k m)) from fun w2 h2 => by rw [Nat.mul_one]; exact HXX.out _ _ HB.out h2 m hmt)
                  have HC0 := Lib.hid (show ∀ w2, Below wr.heap.size wr w2 → w2.cell? (ad.add (k * 1)) = some (.slice (R.P k) (R.ln k) (R.C k)) from fun w2 h2 => by rw [Nat.mul_one]; exact HCC.out _ _ HB.out h2)
                  by_cases hmin : m < R.ln k
                  · obtain ⟨a2, ha2, hy2⟩ := HYY.out m hmin
                    have HY := Lib.hid (show ∀ w2, Below wr.heap.size wr w2 → w2.cell? (a2.add (m * 1)) = some (.int .u8 (mkB k m)) from fun w2 h2 => by rw [Nat.mul_one]; exact hy2 _ _ HB.out h2)
                    have HC := Lib.hid (ha2 ▸ HC0.out)
                    clear hy2 ha2
                    go_wp2
                    clear hc1
                    have hS := Own.start wr
                    obtain ⟨M, hM⟩ : ∃ M, M = wr.heap.size := ⟨_, rfl⟩
                    refine hide_frame fun t0 HT => ?_
                    have HS : t0.size = 113 := by rw [HT]; rfl
                    have h0 : t0[0]? = some (.slice (some ad) n c) := by rw [HT]; rfl
                    have h5 : t0[5]? = some (.slice (some ag) n cg) := by rw [HT]; rfl
                    have h9 : t0[9]? = some (.int .i64 k) := by rw [HT]; rfl
                    have h10 : t0[10]? = some (.int .i64 m) := by rw [HT]; rfl
                    refine wp_region_all 32 (fun i => [80, 81, 82, 83, 84, 85, 86, 87, 88, 89, 90, 91, 92, 93, 94, 95, 96, 97, 98, 99, 100, 101, 102, 103, 104, 105, 106, 107, 108, 109, 110, 111, 112].getD i 0) (fun i => [(· = .slice (some ag) n cg), (· = .int .i64 k), (· = .pointer (some (ag.add (k * 1)))), (· = .slice (some a1) (R.ln k + 70) rc), (· = .int .i64 m), (· = .pointer (some (a1.add (m * 1)))), (· = .int .u8 (mkB k m)), (· = .int .i64 k), (· = .int .i64 m), (· = .int .u8 (mkB k m)), (· = .bool false), (· = .bool false), (· = .int .i64 m), (· = .slice (some ad) n c), (· = .int .i64 k), (· = .pointer (some (ad.add (k * 1)))), (· = .slice (some a2) (R.ln k) (R.C k)), (· = .int .i64 (R.ln k)), (· = .bool true), (· = .bool true), (· = .slice (some ad) n c), (· = .int .i64 k), (· = .pointer (some (ad.add (k * 1)))), (· = .slice (some a2) (R.ln k) (R.C k)), (· = .int .i64 m), (· = .pointer (some (a2.add (m * 1)))), (· = .int .u8 (mkB k m)), (· = .int .i64 k), (· = .int .i64 m), (· = .int .u8 (mkB k m)), (· = .bool false), (· = .bool false), (· = .bool false)].getD i (fun _ => True)) (fun w' => Own wr [] w' ∧ M ≤ w'.heap.size)
                      (by kernel_rfl) (by kernel_rfl) (by kernel_rfl) (slots_apart (by kernel_rfl)) (slots_lie (by rw [HS]; kernel_rfl)) ⟨hS.drew, Nat.le_of_eq hM⟩ (fun w1 w2 h b => ⟨h.1.keep b, Nat.le_trans h.2 b.size⟩) ?_ ?_
                    · clear hS
                      intro i o hi ho
                      have hc : i = 0 ∨ i = 1 ∨ i = 2 ∨ i = 3 ∨ i = 4 ∨ i = 5 ∨ i = 6 ∨ i = 7 ∨ i = 8 ∨ i = 9 ∨ i = 10 ∨ i = 11 ∨ i = 12 ∨ i = 13 ∨ i = 14 ∨ i = 15 ∨ i = 16 ∨ i = 17 ∨ i = 18 ∨ i = 19 ∨ i = 20 ∨ i = 21 ∨ i = 22 ∨ i = 23 ∨ i = 24 ∨ i = 25 ∨ i = 26 ∨ i = 27 ∨ i = 28 ∨ i = 29 ∨ i = 30 ∨ i = 31 ∨ i = 32 := by omega
                      rcases hc with rfl | rfl | rfl | rfl | rfl | rfl | rfl | rfl | rfl | rfl | rfl | rfl | rfl | rfl | rfl | rfl | rfl | rfl | rfl | rfl | rfl | rfl | rfl | rfl | rfl | rfl | rfl | rfl | rfl | rfl | rfl | rfl | rfl
                      · obtain rfl := Option.some.inj ho
                        refine ⟨rfl, fun a w' hS hold hin K hK => ?_⟩
                        refine if_always rfl ?_
                        exact op_move (V := (· = .slice (some ag) n cg)) _ _ rfl rfl (eval_tmp ((hold 5 (slots_not (by kernel_rfl))).trans h5)) rfl hK
                      · obtain rfl := Option.some.inj ho
                        refine ⟨rfl, fun a w' hS hold hin K hK => ?_⟩
                        refine if_always rfl ?_
                        exact op_move (V := (· = .int .i64 k)) _ _ rfl rfl (eval_tmp ((hold 9 (slots_not (by kernel_rfl))).trans h9)) rfl hK
                      · obtain rfl := Option.some.inj ho
                        refine ⟨rfl, fun a w' hS hold hin K hK => ?_⟩
                        obtain ⟨y0, x0, rfl⟩ := hin 0 rfl (by omega)
                        obtain ⟨y1, x1, rfl⟩ := hin 1 rfl (by omega)
                        refine if_always rfl ?_
                        exact op_index 1 26 (by kernel_rfl) (by kernel_rfl) _ _ rfl rfl _ _ _ (eval_tmp x0) _ k (eval_tmp x1) hlt hK
                      · obtain rfl := Option.some.inj ho
                        refine ⟨rfl, fun a w' hS hold hin K hK => ?_⟩
                        obtain ⟨y2, x2, rfl⟩ := hin 2 rfl (by omega)
                        refine if_always rfl ?_
                        exact op_cell tSl _ (ag.add (k * 1)) rfl rfl (eval_tmp x2) (.slice (some a1) (R.ln k + 70) rc) (HG.out _ hS.1.1) hK
                      · obtain rfl := Option.some.inj ho
                        refine ⟨rfl, fun a w' hS hold hin K hK => ?_⟩
                        refine if_always rfl ?_
                        exact op_move (V := (· = .int .i64 m)) _ _ rfl rfl (eval_tmp ((hold 10 (slots_not (by kernel_rfl))).trans h10)) rfl hK
                      · obtain rfl := Option.some.inj ho
                        refine ⟨rfl, fun a w' hS hold hin K hK => ?_⟩
                        obtain ⟨y3, x3, rfl⟩ := hin 3 rfl (by omega)
                        obtain ⟨y4, x4, rfl⟩ := hin 4 rfl (by omega)
                        refine if_always rfl ?_
                        exact op_index 1 5 (by kernel_rfl) (by kernel_rfl) _ _ rfl rfl _ _ _ (eval_tmp x3) _ m (eval_tmp x4) hmt hK
                      · obtain rfl := Option.some.inj ho
                        refine ⟨rfl, fun a w' hS hold hin K hK => ?_⟩
                        obtain ⟨y5, x5, rfl⟩ := hin 5 rfl (by omega)
                        refine if_always rfl ?_
                        exact op_cell tU8 _ (a1.add (m * 1)) rfl rfl (eval_tmp x5) (.int .u8 (mkB k m)) (HX.out _ hS.1.1) hK
                      · obtain rfl := Option.some.inj ho
                        refine ⟨rfl, fun a w' hS hold hin K hK => ?_⟩
                        refine if_always rfl ?_
                        exact op_move (V := (· = .int .i64 k)) _ _ rfl rfl (eval_tmp ((hold 9 (slots_not (by kernel_rfl))).trans h9)) rfl hK
                      · obtain rfl := Option.some.inj ho
                        refine ⟨rfl, fun a w' hS hold hin K hK => ?_⟩
                        refine if_always rfl ?_
                        exact op_move (V := (· = .int .i64 m)) _ _ rfl rfl (eval_tmp ((hold 10 (slots_not (by kernel_rfl))).trans h10)) rfl hK
                      · obtain rfl := Option.some.inj ho
                        refine ⟨rfl, fun a w' hS hold hin K hK => ?_⟩
                        obtain ⟨y7, x7, rfl⟩ := hin 7 rfl (by omega)
                        obtain ⟨y8, x8, rfl⟩ := hin 8 rfl (by omega)
                        refine if_always rfl ?_
                        exact op_fn2 _ _ _ _ _ _ rfl rfl (eval_tmp x7) (eval_tmp x8) (by intro args w; kernel_rfl) (mark_ev k m _ rfl (by have := HN.out; have := HR.out.few; omega) (by omega) _) hK
                      · obtain rfl := Option.some.inj ho
                        refine ⟨rfl, fun a w' hS hold hin K hK => ?_⟩
                        obtain ⟨y6, x6, rfl⟩ := hin 6 rfl (by omega)
                        obtain ⟨y9, x9, rfl⟩ := hin 9 rfl (by omega)
                        refine if_always rfl ?_
                        exact op_bin (V := (· = .bool false)) _ _ _ _ _ _ _ (.bool false) rfl rfl (eval_tmp x6) (eval_tmp x9) (fun w => neqB _ w) rfl hK
                      · obtain rfl := Option.some.inj ho
                        refine ⟨rfl, fun a w' hS hold hin K hK => ?_⟩
                        obtain ⟨y10, x10, rfl⟩ := hin 10 rfl (by omega)
                        refine if_always rfl ?_
                        exact op_move (V := (· = .bool false)) _ _ rfl rfl (eval_tmp x10) rfl hK
                      · obtain rfl := Option.some.inj ho
                        refine ⟨rfl, fun a w' hS hold hin K hK => ?_⟩
                        obtain ⟨y11, x11, rfl⟩ := hin 11 rfl (by omega)
                        refine if_guard (d := 91) rfl rfl x11 ?_
                        exact op_move (V := (· = .int .i64 m)) _ _ rfl rfl (eval_tmp ((hold 10 (slots_not (by kernel_rfl))).trans h10)) rfl hK
                      · obtain rfl := Option.some.inj ho
                        refine ⟨rfl, fun a w' hS hold hin K hK => ?_⟩
                        obtain ⟨y11, x11, rfl⟩ := hin 11 rfl (by omega)
                        refine if_guard (d := 91) rfl rfl x11 ?_
                        exact op_move (V := (· = .slice (some ad) n c)) _ _ rfl rfl (eval_tmp ((hold 0 (slots_not (by kernel_rfl))).trans h0)) rfl hK
                      · obtain rfl := Option.some.inj ho
                        refine ⟨rfl, fun a w' hS hold hin K hK => ?_⟩
                        obtain ⟨y11, x11, rfl⟩ := hin 11 rfl (by omega)
                        refine if_guard (d := 91) rfl rfl x11 ?_
                        exact op_move (V := (· = .int .i64 k)) _ _ rfl rfl (eval_tmp ((hold 9 (slots_not (by kernel_rfl))).trans h9)) rfl hK
                      · obtain rfl := Option.some.inj ho
                        refine ⟨rfl, fun a w' hS hold hin K hK => ?_⟩
                        obtain ⟨y11, x11, rfl⟩ := hin 11 rfl (by omega)
                        obtain ⟨y13, x13, rfl⟩ := hin 13 rfl (by omega)
                        obtain ⟨y14, x14, rfl⟩ := hin 14 rfl (by omega)
                        refine if_guard (d := 91) rfl rfl x11 ?_
                        exact op_index 1 26 (by kernel_rfl) (by kernel_rfl) _ _ rfl rfl _ _ _ (eval_tmp x13) _ k (eval_tmp x14) hlt hK
                      · obtain rfl := Option.some.inj ho
                        refine ⟨rfl, fun a w' hS hold hin K hK => ?_⟩
                        obtain ⟨y11, x11, rfl⟩ := hin 11 rfl (by omega)
                        obtain ⟨y15, x15, rfl⟩ := hin 15 rfl (by omega)
                        refine if_guard (d := 91) rfl rfl x11 ?_
                        exact op_cell tSl _ (ad.add (k * 1)) rfl rfl (eval_tmp x15) (.slice (some a2) (R.ln k) (R.C k)) (HC.out _ hS.1.1) hK
                      · obtain rfl := Option.some.inj ho
                        refine ⟨rfl, fun a w' hS hold hin K hK => ?_⟩
                        obtain ⟨y11, x11, rfl⟩ := hin 11 rfl (by omega)
                        obtain ⟨y16, x16, rfl⟩ := hin 16 rfl (by omega)
                        refine if_guard (d := 91) rfl rfl x11 ?_
                        exact op_len _ _ 5 (by kernel_rfl) rfl rfl _ _ _ (eval_tmp x16) hK
                      · obtain rfl := Option.some.inj ho
                        refine ⟨rfl, fun a w' hS hold hin K hK => ?_⟩
                        obtain ⟨y11, x11, rfl⟩ := hin 11 rfl (by omega)
                        obtain ⟨y12, x12, rfl⟩ := hin 12 rfl (by omega)
                        obtain ⟨y17, x17, rfl⟩ := hin 17 rfl (by omega)
                        refine if_guard (d := 91) rfl rfl x11 ?_
                        exact op_bin (V := (· = .bool true)) _ _ _ _ _ _ _ (.bool true) rfl rfl (eval_tmp x12) (eval_tmp x17) (fun w => lss_yes (by omega) w) rfl hK
                      · obtain rfl := Option.some.inj ho
                        refine ⟨rfl, fun a w' hS hold hin K hK => ?_⟩
                        obtain ⟨y11, x11, rfl⟩ := hin 11 rfl (by omega)
                        obtain ⟨y18, x18, rfl⟩ := hin 18 rfl (by omega)
                        refine if_guard (d := 91) rfl rfl x11 ?_
                        exact op_move (V := (· = .bool true)) _ _ rfl rfl (eval_tmp x18) rfl hK
                      · obtain rfl := Option.some.inj ho
                        refine ⟨rfl, fun a w' hS hold hin K hK => ?_⟩
                        obtain ⟨y19, x19, rfl⟩ := hin 19 rfl (by omega)
                        refine if_guard (d := 99) rfl rfl x19 ?_
                        exact op_move (V := (· = .slice (some ad) n c)) _ _ rfl rfl (eval_tmp ((hold 0 (slots_not (by kernel_rfl))).trans h0)) rfl hK
                      · obtain rfl := Option.some.inj ho
                        refine ⟨rfl, fun a w' hS hold hin K hK => ?_⟩
                        obtain ⟨y19, x19, rfl⟩ := hin 19 rfl (by omega)
                        refine if_guard (d := 99) rfl rfl x19 ?_
                        exact op_move (V := (· = .int .i64 k)) _ _ rfl rfl (eval_tmp ((hold 9 (slots_not (by kernel_rfl))).trans h9)) rfl hK
                      · obtain rfl := Option.some.inj ho
                        refine ⟨rfl, fun a w' hS hold hin K hK => ?_⟩
                        obtain ⟨y19, x19, rfl⟩ := hin 19 rfl (by omega)
                        obtain ⟨y20, x20, rfl⟩ := hin 20 rfl (by omega)
                        obtain ⟨y21, x21, rfl⟩ := hin 21 rfl (by omega)
                        refine if_guard (d := 99) rfl rfl x19 ?_
                        exact op_index 1 26 (by kernel_rfl) (by kernel_rfl) _ _ rfl rfl _ _ _ (eval_tmp x20) _ k (eval_tmp x21) hlt hK
                      · obtain rfl := Option.some.inj ho
                        refine ⟨rfl, fun a w' hS hold hin K hK => ?_⟩
                        obtain ⟨y19, x19, rfl⟩ := hin 19 rfl (by omega)
                        obtain ⟨y22, x22, rfl⟩ := hin 22 rfl (by omega)
                        refine if_guard (d := 99) rfl rfl x19 ?_
                        exact op_cell tSl _ (ad.add (k * 1)) rfl rfl (eval_tmp x22) (.slice (some a2) (R.ln k) (R.C k)) (HC.out _ hS.1.1) hK
                      · obtain rfl := Option.some.inj ho
                        refine ⟨rfl, fun a w' hS hold hin K hK => ?_⟩
                        obtain ⟨y19, x19, rfl⟩ := hin 19 rfl (by omega)
                        refine if_guard (d := 99) rfl rfl x19 ?_
                        exact op_move (V := (· = .int .i64 m)) _ _ rfl rfl (eval_tmp ((hold 10 (slots_not (by kernel_rfl))).trans h10)) rfl hK
                      · obtain rfl := Option.some.inj ho
                        refine ⟨rfl, fun a w' hS hold hin K hK => ?_⟩
                        obtain ⟨y19, x19, rfl⟩ := hin 19 rfl (by omega)
                        obtain ⟨y23, x23, rfl⟩ := hin 23 rfl (by omega)
                        obtain ⟨y24, x24, rfl⟩ := hin 24 rfl (by omega)
                        refine if_guard (d := 99) rfl rfl x19 ?_
                        exact op_index 1 5 (by kernel_rfl) (by kernel_rfl) _ _ rfl rfl _ _ _ (eval_tmp x23) _ m (eval_tmp x24) hmin hK
                      · obtain rfl := Option.some.inj ho
                        refine ⟨rfl, fun a w' hS hold hin K hK => ?_⟩
                        obtain ⟨y19, x19, rfl⟩ := hin 19 rfl (by omega)
                        obtain ⟨y25, x25, rfl⟩ := hin 25 rfl (by omega)
                        refine if_guard (d := 99) rfl rfl x19 ?_
                        exact op_cell tU8 _ (a2.add (m * 1)) rfl rfl (eval_tmp x25) (.int .u8 (mkB k m)) (HY.out _ hS.1.1) hK
                      · obtain rfl := Option.some.inj ho
                        refine ⟨rfl, fun a w' hS hold hin K hK => ?_⟩
                        obtain ⟨y19, x19, rfl⟩ := hin 19 rfl (by omega)
                        refine if_guard (d := 99) rfl rfl x19 ?_
                        exact op_move (V := (· = .int .i64 k)) _ _ rfl rfl (eval_tmp ((hold 9 (slots_not (by kernel_rfl))).trans h9)) rfl hK
                      · obtain rfl := Option.some.inj ho
                        refine ⟨rfl, fun a w' hS hold hin K hK => ?_⟩
                        obtain ⟨y19, x19, rfl⟩ := hin 19 rfl (by omega)
                        refine if_guard (d := 99) rfl rfl x19 ?_
                        exact op_move (V := (· = .int .i64 m)) _ _ rfl rfl (eval_tmp ((hold 10 (slots_not (by kernel_rfl))).trans h10)) rfl hK
                      · obtain rfl := Option.some.inj ho
                        refine ⟨rfl, fun a w' hS hold hin K hK => ?_⟩
                        obtain ⟨y19, x19, rfl⟩ := hin 19 rfl (by omega)
                        obtain ⟨y27, x27, rfl⟩ := hin 27 rfl (by omega)
                        obtain ⟨y28, x28, rfl⟩ := hin 28 rfl (by omega)
                        refine if_guard (d := 99) rfl rfl x19 ?_
                        exact op_fn2 _ _ _ _ _ _ rfl rfl (eval_tmp x27) (eval_tmp x28) (by intro args w; kernel_rfl) (mark_ev k m _ rfl (by have := HN.out; have := HR.out.few; omega) (by omega) _) hK
                      · obtain rfl := Option.some.inj ho
                        refine ⟨rfl, fun a w' hS hold hin K hK => ?_⟩
                        obtain ⟨y19, x19, rfl⟩ := hin 19 rfl (by omega)
                        obtain ⟨y26, x26, rfl⟩ := hin 26 rfl (by omega)
                        obtain ⟨y29, x29, rfl⟩ := hin 29 rfl (by omega)
                        refine if_guard (d := 99) rfl rfl x19 ?_
                        exact op_bin (V := (· = .bool false)) _ _ _ _ _ _ _ (.bool false) rfl rfl (eval_tmp x26) (eval_tmp x29) (fun w => neqB _ w) rfl hK
                      · obtain rfl := Option.some.inj ho
                        refine ⟨rfl, fun a w' hS hold hin K hK => ?_⟩
                        obtain ⟨y11, x11, rfl⟩ := hin 11 rfl (by omega)
                        obtain ⟨y19, x19, rfl⟩ := hin 19 rfl (by omega)
                        obtain ⟨y30, x30, rfl⟩ := hin 30 rfl (by omega)
                        refine if_guard (d := 91) rfl rfl x11 ?_
                        exact op_pick (V := (· = .bool false)) _ _ _ true _ rfl rfl (eval_tmp x19) (show (Act.eval a _) = _ from (eval_tmp x30)) rfl hK
                      · obtain rfl := Option.some.inj ho
                        refine ⟨rfl, fun a w' hS hold hin K hK => ?_⟩
                        obtain ⟨y11, x11, rfl⟩ := hin 11 rfl (by omega)
                        obtain ⟨y31, x31, rfl⟩ := hin 31 rfl (by omega)
                        refine if_always rfl ?_
                        exact op_pick (V := (· = .bool false)) _ _ _ false _ rfl rfl (eval_tmp x11) (show (Act.eval a _) = _ from (eval_tmp x31)) rfl hK
                    clear hS
                    intro t1 V1 hs hold hout hS
                    have ef := frame_fill 33 (fun i => [80, 81, 82, 83, 84, 85, 86, 87, 88, 89, 90, 91, 92, 93, 94, 95, 96, 97, 98, 99, 100, 101, 102, 103, 104, 105, 106, 107, 108, 109, 110, 111, 112].getD i 0) hs hold (slots_apart (by kernel_rfl)) (slots_lie (by rw [HS]; kernel_rfl))
                    replace HS := hs.trans HS
                    replace hS := hS.1
                    obtain ⟨_, q112, rfl⟩ : ∃ x, t1[112]? = some x ∧ x = (.bool false : Value) := hout 32 (by omega)
                    replace h0 := (hold 0 (slots_not (by kernel_rfl))).trans h0
                    replace h5 := (hold 5 (slots_not (by kernel_rfl))).trans h5
                    replace h9 := (hold 9 (slots_not (by kernel_rfl))).trans h9
                    replace h10 := (hold 10 (slots_not (by kernel_rfl))).trans h10
                    clear hold hout hs
                    have g112 : t1.getD 112 undef = .bool false := by rw [Array.getD_eq_getD_getElem?, q112]; rfl
                    rw [ef, HT]
                    clear ef
                    simp only [fillA, if_true, List.getD_cons_zero, List.getD_cons_succ, List.setIfInBounds_toArray, List.set_cons_zero, List.set_cons_succ, g112]
                    generalize t1.getD 80 undef = z80
                    generalize t1.getD 81 undef = z81
                    generalize t1.getD 82 undef = z82
                    generalize t1.getD 83 undef = z83
                    generalize t1.getD 84 undef = z84
                    generalize t1.getD 85 undef = z85
                    generalize t1.getD 86 undef = z86
                    generalize t1.getD 87 undef = z87
                    generalize t1.getD 88 undef = z88
                    generalize t1.getD 89 undef = z89
                    generalize t1.getD 90 undef = z90
                    generalize t1.getD 91 undef = z91
                    generalize t1.getD 92 undef = z92
                    generalize t1.getD 93 undef = z93
                    generalize t1.getD 94 undef = z94
                    generalize t1.getD 95 undef = z95
                    generalize t1.getD 96 undef = z96
                    generalize t1.getD 97 undef = z97
                    generalize t1.getD 98 undef = z98
                    generalize t1.getD 99 undef = z99
                    generalize t1.getD 100 undef = z100
                    generalize t1.getD 101 undef = z101
                    generalize t1.getD 102 undef = z102
                    generalize t1.getD 103 undef = z103
                    generalize t1.getD 104 undef = z104
                    generalize t1.getD 105 undef = z105
                    generalize t1.getD 106 undef = z106
                    generalize t1.getD 107 undef = z107
                    generalize t1.getD 108 undef = z108
                    generalize t1.getD 109 undef = z109
                    generalize t1.getD 110 undef = z110
                    generalize t1.getD 111 undef = z111
                    clear g112 HT
                    clear h0 h5 h9 h10 q112 hM HS t1 t0 M
                    have HB1 := Lib.hid hS.1
                    clear hS
                    go_wp2
                    go_roundw
                    case rel => exact ⟨m + 1, by omega, by go_num, below_call HB1.out HB.out⟩
                    case measure => simp [intOf]; omega
                  · have HC := HC0
                    go_wp2
                    clear hc1
                    have hS := Own.start wr
                    obtain ⟨M, hM⟩ : ∃ M, M = wr.heap.size := ⟨_, rfl⟩
                    refine hide_frame fun t0 HT => ?_
                    have HS : t0.size = 113 := by rw [HT]; rfl
                    have h0 : t0[0]? = some (.slice (some ad) n c) := by rw [HT]; rfl
                    have h5 : t0[5]? = some (.slice (some ag) n cg) := by rw [HT]; rfl
                    have h9 : t0[9]? = some (.int .i64 k) := by rw [HT]; rfl
                    have h10 : t0[10]? = some (.int .i64 m) := by rw [HT]; rfl
                    refine wp_region_all 32 (fun i => [80, 81, 82, 83, 84, 85, 86, 87, 88, 89, 90, 91, 92, 93, 94, 95, 96, 97, 98, 99, 100, 101, 102, 103, 104, 105, 106, 107, 108, 109, 110, 111, 112].getD i 0) (fun i => [(· = .slice (some ag) n cg), (· = .int .i64 k), (· = .pointer (some (ag.add (k * 1)))), (· = .slice (some a1) (R.ln k + 70) rc), (· = .int .i64 m), (· = .pointer (some (a1.add (m * 1)))), (· = .int .u8 (mkB k m)), (· = .int .i64 k), (· = .int .i64 m), (· = .int .u8 (mkB k m)), (· = .bool false), (· = .bool false), (· = .int .i64 m), (· = .slice (some ad) n c), (· = .int .i64 k), (· = .pointer (some (ad.add (k * 1)))), (· = .slice (R.P k) (R.ln k) (R.C k)), (· = .int .i64 (R.ln k)), (· = .bool false), (· = .bool false), (fun _ => True), (fun _ => True), (fun _ => True), (fun _ => True), (fun _ => True), (fun _ => True), (fun _ => True), (fun _ => True), (fun _ => True), (fun _ => True), (fun _ => True), (· = .bool false), (· = .bool false)].getD i (fun _ => True)) (fun w' => Own wr [] w' ∧ M ≤ w'.heap.size)
                      (by kernel_rfl) (by kernel_rfl) (by kernel_rfl) (slots_apart (by kernel_rfl)) (slots_lie (by rw [HS]; kernel_rfl)) ⟨hS.drew, Nat.le_of_eq hM⟩ (fun w1 w2 h b => ⟨h.1.keep b, Nat.le_trans h.2 b.size⟩) ?_ ?_
                    · clear hS
                      intro i o hi ho
                      have hc : i = 0 ∨ i = 1 ∨ i = 2 ∨ i = 3 ∨ i = 4 ∨ i = 5 ∨ i = 6 ∨ i = 7 ∨ i = 8 ∨ i = 9 ∨ i = 10 ∨ i = 11 ∨ i = 12 ∨ i = 13 ∨ i = 14 ∨ i = 15 ∨ i = 16 ∨ i = 17 ∨ i = 18 ∨ i = 19 ∨ i = 20 ∨ i = 21 ∨ i = 22 ∨ i = 23 ∨ i = 24 ∨ i = 25 ∨ i = 26 ∨ i = 27 ∨ i = 28 ∨ i = 29 ∨ i = 30 ∨ i = 31 ∨ i = 32 := by omega
                      rcases hc with rfl | rfl | rfl | rfl | rfl | rfl | rfl | rfl | rfl | rfl | rfl | rfl | rfl | rfl | rfl | rfl | rfl | rfl | rfl | rfl | rfl | rfl | rfl | rfl | rfl | rfl | rfl | rfl | rfl | rfl | rfl | rfl | rfl
                      · obtain rfl := Option.some.inj ho
                        refine ⟨rfl, fun a w' hS hold hin K hK => ?_⟩
                        refine if_always rfl ?_
                        exact op_move (V := (· = .slice (some ag) n cg)) _ _ rfl rfl (eval_tmp ((hold 5 (slots_not (by kernel_rfl))).trans h5)) rfl hK
                      · obtain rfl := Option.some.inj ho
                        refine ⟨rfl, fun a w' hS hold hin K hK => ?_⟩
                        refine if_always rfl ?_
                        exact op_move (V := (· = .int .i64 k)) _ _ rfl rfl (eval_tmp ((hold 9 (slots_not (by kernel_rfl))).trans h9)) rfl hK
                      · obtain rfl := Option.some.inj ho
                        refine ⟨rfl, fun a w' hS hold hin K hK => ?_⟩
                        obtain ⟨y0, x0, rfl⟩ := hin 0 rfl (by omega)
                        obtain ⟨y1, x1, rfl⟩ := hin 1 rfl (by omega)
                        refine if_always rfl ?_
                        exact op_index 1 26 (by kernel_rfl) (by kernel_rfl) _ _ rfl rfl _ _ _ (eval_tmp x0) _ k (eval_tmp x1) hlt hK
                      · obtain rfl := Option.some.inj ho
                        refine ⟨rfl, fun a w' hS hold hin K hK => ?_⟩
                        obtain ⟨y2, x2, rfl⟩ := hin 2 rfl (by omega)
                        refine if_always rfl ?_
                        exact op_cell tSl _ (ag.add (k * 1)) rfl rfl (eval_tmp x2) (.slice (some a1) (R.ln k + 70) rc) (HG.out _ hS.1.1) hK
                      · obtain rfl := Option.some.inj ho
                        refine ⟨rfl, fun a w' hS hold hin K hK => ?_⟩
                        refine if_always rfl ?_
                        exact op_move (V := (· = .int .i64 m)) _ _ rfl rfl (eval_tmp ((hold 10 (slots_not (by kernel_rfl))).trans h10)) rfl hK
                      · obtain rfl := Option.some.inj ho
                        refine ⟨rfl, fun a w' hS hold hin K hK => ?_⟩
                        obtain ⟨y3, x3, rfl⟩ := hin 3 rfl (by omega)
                        obtain ⟨y4, x4, rfl⟩ := hin 4 rfl (by omega)
                        refine if_always rfl ?_
                        exact op_index 1 5 (by kernel_rfl) (by kernel_rfl) _ _ rfl rfl _ _ _ (eval_tmp x3) _ m (eval_tmp x4) hmt hK
                      · obtain rfl := Option.some.inj ho
                        refine ⟨rfl, fun a w' hS hold hin K hK => ?_⟩
                        obtain ⟨y5, x5, rfl⟩ := hin 5 rfl (by omega)
                        refine if_always rfl ?_
                        exact op_cell tU8 _ (a1.add (m * 1)) rfl rfl (eval_tmp x5) (.int .u8 (mkB k m)) (HX.out _ hS.1.1) hK
                      · obtain rfl := Option.some.inj ho
                        refine ⟨rfl, fun a w' hS hold hin K hK => ?_⟩
                        refine if_always rfl ?_
                        exact op_move (V := (· = .int .i64 k)) _ _ rfl rfl (eval_tmp ((hold 9 (slots_not (by kernel_rfl))).trans h9)) rfl hK
                      · obtain rfl := Option.some.inj ho
                        refine ⟨rfl, fun a w' hS hold hin K hK => ?_⟩
                        refine if_always rfl ?_
                        exact op_move (V := (· = .int .i64 m)) _ _ rfl rfl (eval_tmp ((hold 10 (slots_not (by kernel_rfl))).trans h10)) rfl hK
                      · obtain rfl := Option.some.inj ho
                        refine ⟨rfl, fun a w' hS hold hin K hK => ?_⟩
                        obtain ⟨y7, x7, rfl⟩ := hin 7 rfl (by omega)
                        obtain ⟨y8, x8, rfl⟩ := hin 8 rfl (by omega)
                        refine if_always rfl ?_
                        exact op_fn2 _ _ _ _ _ _ rfl rfl (eval_tmp x7) (eval_tmp x8) (by intro args w; kernel_rfl) (mark_ev k m _ rfl (by have := HN.out; have := HR.out.few; omega) (by omega) _) hK
                      · obtain rfl := Option.some.inj ho
                        refine ⟨rfl, fun a w' hS hold hin K hK => ?_⟩
                        obtain ⟨y6, x6, rfl⟩ := hin 6 rfl (by omega)
                        obtain ⟨y9, x9, rfl⟩ := hin 9 rfl (by omega)
                        refine if_always rfl ?_
                        exact op_bin (V := (· = .bool false)) _ _ _ _ _ _ _ (.bool false) rfl rfl (eval_tmp x6) (eval_tmp x9) (fun w => neqB _ w) rfl hK
                      · obtain rfl := Option.some.inj ho
                        refine ⟨rfl, fun a w' hS hold hin K hK => ?_⟩
                        obtain ⟨y10, x10, rfl⟩ := hin 10 rfl (by omega)
                        refine if_always rfl ?_
                        exact op_move (V := (· = .bool false)) _ _ rfl rfl (eval_tmp x10) rfl hK
                      · obtain rfl := Option.some.inj ho
                        refine ⟨rfl, fun a w' hS hold hin K hK => ?_⟩
                        obtain ⟨y11, x11, rfl⟩ := hin 11 rfl (by omega)
                        refine if_guard (d := 91) rfl rfl x11 ?_
                        exact op_move (V := (· = .int .i64 m)) _ _ rfl rfl (eval_tmp ((hold 10 (slots_not (by kernel_rfl))).trans h10)) rfl hK
                      · obtain rfl := Option.some.inj ho
                        refine ⟨rfl, fun a w' hS hold hin K hK => ?_⟩
                        obtain ⟨y11, x11, rfl⟩ := hin 11 rfl (by omega)
                        refine if_guard (d := 91) rfl rfl x11 ?_
                        exact op_move (V := (· = .slice (some ad) n c)) _ _ rfl rfl (eval_tmp ((hold 0 (slots_not (by kernel_rfl))).trans h0)) rfl hK
                      · obtain rfl := Option.some.inj ho
                        refine ⟨rfl, fun a w' hS hold hin K hK => ?_⟩
                        obtain ⟨y11, x11, rfl⟩ := hin 11 rfl (by omega)
                        refine if_guard (d := 91) rfl rfl x11 ?_
                        exact op_move (V := (· = .int .i64 k)) _ _ rfl rfl (eval_tmp ((hold 9 (slots_not (by kernel_rfl))).trans h9)) rfl hK
                      · obtain rfl := Option.some.inj ho
                        refine ⟨rfl, fun a w' hS hold hin K hK => ?_⟩
                        obtain ⟨y11, x11, rfl⟩ := hin 11 rfl (by omega)
                        obtain ⟨y13, x13, rfl⟩ := hin 13 rfl (by omega)
                        obtain ⟨y14, x14, rfl⟩ := hin 14 rfl (by omega)
                        refine if_guard (d := 91) rfl rfl x11 ?_
                        exact op_index 1 26 (by kernel_rfl) (by kernel_rfl) _ _ rfl rfl _ _ _ (eval_tmp x13) _ k (eval_tmp x14) hlt hK
                      · obtain rfl := Option.some.inj ho
                        refine ⟨rfl, fun a w' hS hold hin K hK => ?_⟩
                        obtain ⟨y11, x11, rfl⟩ := hin 11 rfl (by omega)
                        obtain ⟨y15, x15, rfl⟩ := hin 15 rfl (by omega)
                        refine if_guard (d := 91) rfl rfl x11 ?_
                        exact op_cell tSl _ (ad.add (k * 1)) rfl rfl (eval_tmp x15) (.slice (R.P k) (R.ln k) (R.C k)) (HC.out _ hS.1.1) hK
                      · obtain rfl := Option.some.inj ho
                        refine ⟨rfl, fun a w' hS hold hin K hK => ?_⟩
                        obtain ⟨y11, x11, rfl⟩ := hin 11 rfl (by omega)
                        obtain ⟨y16, x16, rfl⟩ := hin 16 rfl (by omega)
                        refine if_guard (d := 91) rfl rfl x11 ?_
                        exact op_len _ _ 5 (by kernel_rfl) rfl rfl _ _ _ (eval_tmp x16) hK
                      · obtain rfl := Option.some.inj ho
                        refine ⟨rfl, fun a w' hS hold hin K hK => ?_⟩
                        obtain ⟨y11, x11, rfl⟩ := hin 11 rfl (by omega)
                        obtain ⟨y12, x12, rfl⟩ := hin 12 rfl (by omega)
                        obtain ⟨y17, x17, rfl⟩ := hin 17 rfl (by omega)
                        refine if_guard (d := 91) rfl rfl x11 ?_
                        exact op_bin (V := (· = .bool false)) _ _ _ _ _ _ _ (.bool false) rfl rfl (eval_tmp x12) (eval_tmp x17) (fun w => lss_no (by omega) w) rfl hK
                      · obtain rfl := Option.some.inj ho
                        refine ⟨rfl, fun a w' hS hold hin K hK => ?_⟩
                        obtain ⟨y11, x11, rfl⟩ := hin 11 rfl (by omega)
                        obtain ⟨y18, x18, rfl⟩ := hin 18 rfl (by omega)
                        refine if_guard (d := 91) rfl rfl x11 ?_
                        exact op_move (V := (· = .bool false)) _ _ rfl rfl (eval_tmp x18) rfl hK
                      · obtain rfl := Option.some.inj ho
                        refine ⟨rfl, fun a w' hS hold hin K hK => ?_⟩
                        obtain ⟨y19, x19, rfl⟩ := hin 19 rfl (by omega)
                        exact if_guard_off (d := 99) rfl rfl x19 (by decide) (hK _ _ trivial (Below.refl _ _))
                      · obtain rfl := Option.some.inj ho
                        refine ⟨rfl, fun a w' hS hold hin K hK => ?_⟩
                        obtain ⟨y19, x19, rfl⟩ := hin 19 rfl (by omega)
                        exact if_guard_off (d := 99) rfl rfl x19 (by decide) (hK _ _ trivial (Below.refl _ _))
                      · obtain rfl := Option.some.inj ho
                        refine ⟨rfl, fun a w' hS hold hin K hK => ?_⟩
                        obtain ⟨y19, x19, rfl⟩ := hin 19 rfl (by omega)
                        exact if_guard_off (d := 99) rfl rfl x19 (by decide) (hK _ _ trivial (Below.refl _ _))
                      · obtain rfl := Option.some.inj ho
                        refine ⟨rfl, fun a w' hS hold hin K hK => ?_⟩
                        obtain ⟨y19, x19, rfl⟩ := hin 19 rfl (by omega)
                        exact if_guard_off (d := 99) rfl rfl x19 (by decide) (hK _ _ trivial (Below.refl _ _))
                      · obtain rfl := Option.some.inj ho
                        refine ⟨rfl, fun a w' hS hold hin K hK => ?_⟩
                        obtain ⟨y19, x19, rfl⟩ := hin 19 rfl (by omega)
                        exact if_guard_off (d := 99) rfl rfl x19 (by decide) (hK _ _ trivial (Below.refl _ _))
                      · obtain rfl := Option.some.inj ho
                        refine ⟨rfl, fun a w' hS hold hin K hK => ?_⟩
                        obtain ⟨y19, x19, rfl⟩ := hin 19 rfl (by omega)
                        exact if_guard_off (d := 99) rfl rfl x19 (by decide) (hK _ _ trivial (Below.refl _ _))
                      · obtain rfl := Option.some.inj ho
                        refine ⟨rfl, fun a w' hS hold hin K hK => ?_⟩
                        obtain ⟨y19, x19, rfl⟩ := hin 19 rfl (by omega)
                        exact if_guard_off (d := 99) rfl rfl x19 (by decide) (hK _ _ trivial (Below.refl _ _))
                      · obtain rfl := Option.some.inj ho
                        refine ⟨rfl, fun a w' hS hold hin K hK => ?_⟩
                        obtain ⟨y19, x19, rfl⟩ := hin 19 rfl (by omega)
                        exact if_guard_off (d := 99) rfl rfl x19 (by decide) (hK _ _ trivial (Below.refl _ _))
                      · obtain rfl := Option.some.inj ho
                        refine ⟨rfl, fun a w' hS hold hin K hK => ?_⟩
                        obtain ⟨y19, x19, rfl⟩ := hin 19 rfl (by omega)
                        exact if_guard_off (d := 99) rfl rfl x19 (by decide) (hK _ _ trivial (Below.refl _ _))
                      · obtain rfl := Option.some.inj ho
                        refine ⟨rfl, fun a w' hS hold hin K hK => ?_⟩
                        obtain ⟨y19, x19, rfl⟩ := hin 19 rfl (by omega)
                        exact if_guard_off (d := 99) rfl rfl x19 (by decide) (hK _ _ trivial (Below.refl _ _))
                      · obtain rfl := Option.some.inj ho
                        refine ⟨rfl, fun a w' hS hold hin K hK => ?_⟩
                        obtain ⟨y19, x19, rfl⟩ := hin 19 rfl (by omega)
                        exact if_guard_off (d := 99) rfl rfl x19 (by decide) (hK _ _ trivial (Below.refl _ _))
                      · obtain rfl := Option.some.inj ho
                        refine ⟨rfl, fun a w' hS hold hin K hK => ?_⟩
                        obtain ⟨y11, x11, rfl⟩ := hin 11 rfl (by omega)
                        obtain ⟨y19, x19, rfl⟩ := hin 19 rfl (by omega)
                        refine if_guard (d := 91) rfl rfl x11 ?_
                        exact op_pick (V := (· = .bool false)) _ _ _ false _ rfl rfl (eval_tmp x19) (show Act.eval a (.const (.bool false)) = (.bool false) from rfl) rfl hK
                      · obtain rfl := Option.some.inj ho
                        refine ⟨rfl, fun a w' hS hold hin K hK => ?_⟩
                        obtain ⟨y11, x11, rfl⟩ := hin 11 rfl (by omega)
                        obtain ⟨y31, x31, rfl⟩ := hin 31 rfl (by omega)
                        refine if_always rfl ?_
                        exact op_pick (V := (· = .bool false)) _ _ _ false _ rfl rfl (eval_tmp x11) (show (Act.eval a _) = _ from (eval_tmp x31)) rfl hK
                    clear hS
                    intro t1 V1 hs hold hout hS
                    have ef := frame_fill 33 (fun i => [80, 81, 82, 83, 84, 85, 86, 87, 88, 89, 90, 91, 92, 93, 94, 95, 96, 97, 98, 99, 100, 101, 102, 103, 104, 105, 106, 107, 108, 109, 110, 111, 112].getD i 0) hs hold (slots_apart (by kernel_rfl)) (slots_lie (by rw [HS]; kernel_rfl))
                    replace HS := hs.trans HS
                    replace hS := hS.1
                    obtain ⟨_, q112, rfl⟩ : ∃ x, t1[112]? = some x ∧ x = (.bool false : Value) := hout 32 (by omega)
                    replace h0 := (hold 0 (slots_not (by kernel_rfl))).trans h0
                    replace h5 := (hold 5 (slots_not (by kernel_rfl))).trans h5
                    replace h9 := (hold 9 (slots_not (by kernel_rfl))).trans h9
                    replace h10 := (hold 10 (slots_not (by kernel_rfl))).trans h10
                    clear hold hout hs
                    have g112 : t1.getD 112 undef = .bool false := by rw [Array.getD_eq_getD_getElem?, q112]; rfl
                    rw [ef, HT]
                    clear ef
                    simp only [fillA, if_true, List.getD_cons_zero, List.getD_cons_succ, List.setIfInBounds_toArray, List.set_cons_zero, List.set_cons_succ, g112]
                    generalize t1.getD 80 undef = z80
                    generalize t1.getD 81 undef = z81
                    generalize t1.getD 82 undef = z82
                    generalize t1.getD 83 undef = z83
                    generalize t1.getD 84 undef = z84
                    generalize t1.getD 85 undef = z85
                    generalize t1.getD 86 undef = z86
                    generalize t1.getD 87 undef = z87
                    generalize t1.getD 88 undef = z88
                    generalize t1.getD 89 undef = z89
                    generalize t1.getD 90 undef = z90
                    generalize t1.getD 91 undef = z91
                    generalize t1.getD 92 undef = z92
                    generalize t1.getD 93 undef = z93
                    generalize t1.getD 94 undef = z94
                    generalize t1.getD 95 undef = z95
                    generalize t1.getD 96 undef = z96
                    generalize t1.getD 97 undef = z97
                    generalize t1.getD 98 undef = z98
                    generalize t1.getD 99 undef = z99
                    generalize t1.getD 100 undef = z100
                    generalize t1.getD 101 undef = z101
                    generalize t1.getD 102 undef = z102
                    generalize t1.getD 103 undef = z103
                    generalize t1.getD 104 undef = z104
                    generalize t1.getD 105 undef = z105
                    generalize t1.getD 106 undef = z106
                    generalize t1.getD 107 undef = z107
                    generalize t1.getD 108 undef = z108
                    generalize t1.getD 109 undef = z109
                    generalize t1.getD 110 undef = z110
                    generalize t1.getD 111 undef = z111
                    clear g112 HT
                    clear h0 h5 h9 h10 q112 hM HS t1 t0 M
                    have HB1 := Lib.hid hS.1
                    clear hS
                    go_wp2
                    go_roundw
                    case rel => exact ⟨m + 1, by omega, by go_num, below_call HB1.out HB.out⟩
                    case measure => simp [intOf]; omega
                · obtain rfl : m = R.ln k + 70 := by omega
                  go_wp2
                  go_roundw
                  case rel => exact ⟨k + 1, by omega, by go_num, HB.out⟩
                  case measure => simp [intOf]; omega
            · go_wp2
              exact ⟨rfl, .bool true, by kernel_rfl, rfl, below_call HB.out H1.out.below⟩
end Go.Proofs.YtmochmpamgfboaaDoor
