/- trystref00.mark; a byte written into bytes of the call's own; append tells whether the old row stays. No condition. -/
import Derived.Test.YtmochmpamgfboaaDoorRowB
namespace Go.Proofs.YtmochmpamgfboaaDoor
open Go.RowKit
/-- The mark of list i at place k. -/
def mkB (i k : Nat) : Int := IntKind.u8.wrap ((i : Int) * 31 + (k : Int) * 7 + 1)
set_option maxRecDepth 100000 in
theorem mark_any (i k : Nat) (hi : i ≤ 1000000) (hk : k ≤ 281474976710656) (w : World) : Calls Tryd.prog 52 #[.int .i64 i, .int .i64 k] w (Gives (· = .int .u8 (mkB i k)) w) := by
  go_enter Tryd.func52, Tryd.ntmps52
  go_wp2
  exact ⟨rfl, .int .u8 (mkB i k), by kernel_rfl, _, rfl, rfl, Below.refl _ _⟩
def marks (i n : Nat) : List Int := (List.range n).map (mkB i)
theorem marks_len (i n : Nat) : (marks i n).length = n := by simp [marks]
theorem marks_nth {i n k : Nat} (h : k < n) : nth (marks i n) k = mkB i k := by simp [marks, nth, List.getD_eq_getElem?_getD, h]
theorem marks_succ (i n : Nat) : marks i n ++ [mkB i n] = marks i (n + 1) := by simp [marks, List.range_succ]
theorem marks_take {i n k : Nat} (h : k ≤ n) : (marks i n).take k = marks i k := by
  rw [marks, marks, ← List.map_take, List.take_range, Nat.min_eq_left h]
/-- A byte is written. -/
theorem Bts.stored {w : World} {B g n c : Nat} {l : List Int} (h : Bts w B (.slice (some ⟨g, 0, none⟩) n c) l) (k : Nat) (u : Int) :
    Bts (w.setCell ⟨g, k, none⟩ (.int .u8 u)) B (.slice (some ⟨g, 0, none⟩) n c) (l.set k u) ∧ w.grownBy (w.setCell ⟨g, k, none⟩ (.int .u8 u)) (some g) := by
  obtain ⟨_, _, e, _⟩ := h.open
  injection e with e1 e2 e3
  subst e2
  have h1 := World.ownsRow.stored h k (.int .u8 u)
  refine ⟨?_, h1.2⟩
  rw [Bts, List.length_set, List.map_set]
  exact h1.1
theorem Bts.free {w : World} {B g n c : Nat} {l : List Int} (h : Bts w B (.slice (some ⟨g, 0, none⟩) n c) l) (k : Nat) : w.frozen? ⟨g, k, none⟩ = false := by
  obtain ⟨_, _, e, _⟩ := h.open
  injection e with e1 e2 e3
  subst e2
  exact World.ownsRow.frozenAt h k
/-- Where bytes that grow lie: in the old row, or the old row stays. -/
theorem run_app_where {w w' : World} {B : Nat} {v v' : Value} {l l2 : List Int} (ty : TypeId) {a : Addr} {m c : Nat} (h0 : 0 < m) (hv : Bts w B v l) (hm : l2.length = m) (h2 : BytesIn w (some a) l2) (hbig : l.length + m ≤ 140737488355328)
    (hr : (Builtin.append_ #[26, 26] ty #[v, .slice (some a) m c]).run Tryd.prog w = .ok v' w') : v'.ownBlock = v.ownBlock ∨ v'.ownBlock = some w.heap.size ∧ w.grownBy w' none := by
  obtain ⟨ie, hie, hz, hs, hb⟩ := u8_info
  have hnew : ∀ o, w.grownBy (w.drew.alloc o) none := fun o => ⟨rfl, rfl, rfl, by simp, fun k hk _ => heap_alloc_old w.drew _ hk⟩
  rcases hv.2 with ⟨rfl, hn⟩ | ⟨g, cap, cur, rfl, hbg, hg, hnc, hcm, hcs, htake⟩
  · have e := run_append_nil (P := Tryd.prog) w 26 ty 5 ie (.int .u8 0) Tryd.underlying26 hie hz a m c (l2.map (Value.int .u8)) (by simp [hm, hs]) h2.src h0 (by omega) (by rw [hb]; omega)
    rw [e] at hr
    injection hr with h1 h2
    subst h1; subst h2
    exact .inr ⟨rfl, hnew _⟩
  · by_cases hroom : l.length + m ≤ cap
    · have e := run_append_room (P := Tryd.prog) w 26 ty 5 ie Tryd.underlying26 hie g l.length cap cur hg a m c (l2.map (Value.int .u8)) (by simp [hm, hs]) h2.src (by simp [Value.oneCell']) hroom (by rw [hs, List.length_map]; omega)
      rw [e] at hr
      injection hr with h1 h2
      subst h1
      exact .inl rfl
    · have holds : ∀ j u, (l.map (Value.int .u8))[j]? = some u → w.cell? ((⟨g, 0, none⟩ : Addr).add j) = some u := World.ownsRow.cells (g := g) hv rfl
      have e := run_append_grow (P := Tryd.prog) w 26 ty 5 ie (.int .u8 0) Tryd.underlying26 hie hz ⟨g, 0, none⟩ l.length cap (l.map (Value.int .u8)) (by simp [hs]) holds a m c (l2.map (Value.int .u8)) (by simp [hm, hs]) h2.src (by omega) (by omega) (growslice_fits (by omega) (by rw [hb]; omega))
      rw [e] at hr
      injection hr with h1 h2
      subst h1; subst h2
      exact .inr ⟨rfl, hnew _⟩
section
variable {o : Oper} {w b : World} {a : Act} {Q : Exit → Act → World → Prop} {ops : Array Oper} {rest : List Oper}
/-- append(v, x), the literal laid just before; said also where the old row stays. -/
theorem wpList_app2 {v : Value} {l : List Int} {u : Int} (x y : Operand) (hgd : o.guard = none) (ho : o.op = .call { callee := .builtin .append, args := #[x, y], argTypes := #[26, 26] }) (hx : a.eval x = v) (hy : a.eval y = .slice (some ⟨w.heap.size, 0, none⟩) 1 1)
    (hB : b.heap.size ≤ w.heap.size) (hv : Bts w b.heap.size v l) (hbig : l.length + 1 ≤ 140737488355328)
    (hK : ∀ v' w', Bts w' b.heap.size v' (l ++ [u]) → (v'.ownBlock = v.ownBlock ∧ w.grownBy w' v.ownBlock ∨ (∃ k, v'.ownBlock = some k ∧ w.heap.size ≤ k) ∧ w.grownBy w' none) → wpList Tryd.prog ops Q rest (a.put o.dst v') w') : wpList Tryd.prog ops Q (o :: rest) a (w.alloc (.cells #[.int .u8 u] 5)) := by
  have hs : w.heap.size ≤ (w.alloc (.cells #[.int .u8 u] 5)).heap.size := by simp
  obtain ⟨v', w', h3, h4, h5, h6⟩ := run_app (l2 := [u]) o.type (hv.alloc (.cells #[.int .u8 u] 5)) rfl (bytesIn_one w u) (fun h => by cases h) (Nat.le_trans hB hs) hbig (c := 1)
  have h7 := run_app_where (l2 := [u]) o.type Nat.one_pos (hv.alloc (.cells #[.int .u8 u] 5)) rfl (bytesIn_one w u) hbig h3
  have tr : ∀ row, (w.alloc (.cells #[.int .u8 u] 5)).grownBy w' row → w.grownBy w' row := fun row h => ⟨h.os, h.tape, h.output, Nat.le_trans hs h.size, fun k hk hne => (h.block k (Nat.lt_of_lt_of_le hk hs) hne).trans (Below.heap_alloc w _ k hk)⟩
  refine wpList_step fun K hKK => if_always hgd (wp_append_run x y _ ho hx hy h3 (hKK _ _ (hK v' w' h4 ?_)))
  rcases h7 with h7 | ⟨h7, h8⟩
  · exact .inl ⟨h7, tr _ h5⟩
  · exact .inr ⟨⟨_, h7, hs⟩, tr _ h8⟩
end
end Go.Proofs.YtmochmpamgfboaaDoor
