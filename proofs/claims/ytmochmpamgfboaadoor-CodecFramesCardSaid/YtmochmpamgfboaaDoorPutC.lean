/- codec.PutConfig. No condition. -/
import Derived.Test.YtmochmpamgfboaaDoorJoin
namespace Go.Proofs.YtmochmpamgfboaaDoor
open Go.RowKit
/-- A config's value. -/
def confL (n0 n1 n2 n3 n4 n5 : Int) : List Int := le4 (n0 % 4294967296) ++ (le4 (n1 % 4294967296) ++ (le4 (n2 % 4294967296) ++ (le4 (n3 % 4294967296) ++ (le4 (n4 % 4294967296) ++ (le4 (n5 % 4294967296) ++ [])))))
theorem check_yes {n0 n1 n2 n3 n4 n5 : Int} (h : good n0 n1 n2 n3 n4 n5 = true) (w : World) : Calls Tryd.prog 37 #[.agg #[.int .i64 n0, .int .i64 n1, .int .i64 n2, .int .i64 n3, .int .i64 n4, .int .i64 n5]] w (Gives (· = .int .i64 0) w) :=
  (check20_any n0 n1 n2 n3 n4 n5 w).mono fun _ _ ⟨r, e1, e2, e3⟩ => ⟨r, e1, by rw [if_pos h] at e2; exact e2, e3⟩
theorem check_no {n0 n1 n2 n3 n4 n5 : Int} (h : ¬ good n0 n1 n2 n3 n4 n5 = true) (w : World) : Calls Tryd.prog 37 #[.agg #[.int .i64 n0, .int .i64 n1, .int .i64 n2, .int .i64 n3, .int .i64 n4, .int .i64 n5]] w (Gives (· = .int .i64 200) w) :=
  (check20_any n0 n1 n2 n3 n4 n5 w).mono fun _ _ ⟨r, e1, e2, e3⟩ => ⟨r, e1, by rw [if_neg h] at e2; exact e2, e3⟩
theorem checkR_yes {n0 n1 n2 n3 n4 n5 : Int} (h : good n0 n1 n2 n3 n4 n5 = true) (w : World) : Calls Tryd.prog 38 #[.agg #[.int .i64 n0, .int .i64 n1, .int .i64 n2, .int .i64 n3, .int .i64 n4, .int .i64 n5]] w (Gives (· = .int .i64 0) w) :=
  (checkR_any n0 n1 n2 n3 n4 n5 w).mono fun _ _ ⟨r, e1, e2, e3⟩ => ⟨r, e1, by rw [if_pos h] at e2; exact e2, e3⟩
theorem checkR_no {n0 n1 n2 n3 n4 n5 : Int} (h : ¬ good n0 n1 n2 n3 n4 n5 = true) (w : World) : Calls Tryd.prog 38 #[.agg #[.int .i64 n0, .int .i64 n1, .int .i64 n2, .int .i64 n3, .int .i64 n4, .int .i64 n5]] w (Gives (· = .int .i64 200) w) :=
  (checkR_any n0 n1 n2 n3 n4 n5 w).mono fun _ _ ⟨r, e1, e2, e3⟩ => ⟨r, e1, by rw [if_neg h] at e2; exact e2, e3⟩
/-- A config that lies boxed in the call's own memory. -/
theorem conf_cells {w w1 : World} {g : Nat} {c : Array Value} {t : TypeId} (h : w.heap[g]? = some (.cells c t (0, 0))) (hb : Below w.heap.size w w1) (k : Nat) (v : Value) (hv : c[k]? = some v) : w1.cell? ⟨g, k, none⟩ = some v := by
  have hg : g < w.heap.size := by
    rcases Nat.lt_or_ge g w.heap.size with h' | h'
    · exact h'
    · rw [Array.getElem?_eq_none h'] at h; cases h
  rw [hb.cell hg, cell_of_row w g k c t (0, 0) h, hv]
theorem nums_parts (xs : List Int) (w : World) : ∀ (k : Nat) (v : Value) (o : Option (List Int)), (xs.map fun x => Value.iface 3 (.int .i64 x))[k]? = some v → (xs.map fun x => some (le4 (x % 4294967296)))[k]? = some o → PartIn w v o := fun k v o h1 h2 => by
  rw [List.getElem?_map] at h1 h2
  obtain ⟨x, h3, rfl⟩ := Option.map_eq_some_iff.1 h1
  rw [h3] at h2
  obtain rfl : some (le4 (x % 4294967296)) = o := by simpa using h2
  exact .num x
theorem lit_at (w : World) (cs : Array Value) (t : TypeId) (k : Nat) (v : Value) (h : cs.toList[k]? = some v) : ∃ a, some (⟨w.heap.size, 0, none⟩ : Addr) = some a ∧ a.block < (w.alloc (.cells cs t)).heap.size ∧ (w.alloc (.cells cs t)).cell? (a.add k) = some v :=
  ⟨_, rfl, by simp, by rw [add_lit, cell_of_row _ _ k _ _ _ (heap_alloc_new w _)]; simpa using h⟩
theorem Bts.ret {w w1 w2 : World} {v : Value} {l : List Int} (h : Bts w2 w1.heap.size v l) (hs : w.heap.size ≤ w1.heap.size) : Bts w2 w.heap.size v l := h.low hs
set_option maxHeartbeats 4000000 in
set_option maxRecDepth 100000 in
theorem putConfig_no {n0 n1 n2 n3 n4 n5 : Int} (h : ¬ good n0 n1 n2 n3 n4 n5 = true) (w : World) :
    Calls Tryd.prog 35 #[.agg #[.int .i64 n0, .int .i64 n1, .int .i64 n2, .int .i64 n3, .int .i64 n4, .int .i64 n5]] w (Gives (· = .tuple #[.slice none 0 0, .int .i64 200]) w) := by
  have HG := Lib.hid h
  clear h
  go_enter Tryd.func35, Tryd.ntmps35
  go_wp2_with (go_at_call 37; refine (check_no HG.out _).mono ?_; rintro e w1 ⟨_, rfl, rfl, hb⟩)
  exact ⟨rfl, .tuple #[.slice none 0 0, .int .i64 200], by kernel_rfl, _, rfl, rfl, below_call hb (by go_grown)⟩
set_option maxHeartbeats 4000000 in
set_option maxRecDepth 100000 in
theorem putConfig_yes {n0 n1 n2 n3 n4 n5 : Int} (h : good n0 n1 n2 n3 n4 n5 = true) (w : World) :
    Calls Tryd.prog 35 #[.agg #[.int .i64 n0, .int .i64 n1, .int .i64 n2, .int .i64 n3, .int .i64 n4, .int .i64 n5]] w (LaidV w (confL n0 n1 n2 n3 n4 n5)) := by
  have HG := Lib.hid h
  clear h
  go_enter Tryd.func35, Tryd.ntmps35
  go_wp2_with (go_at_call 37; refine (check_yes HG.out _).mono ?_; rintro e w1 ⟨_, rfl, rfl, hb⟩; have hc := conf_cells (heap_alloc_new w _) hb; have HB := Lib.hid (show Below w.heap.size w w1 from below_call hb (by go_grown)); clear hb)
  refine (laid_any _ 6 6 [_, _, _, _, _, _] _ _ _ (rfl : layAll [_, _, _, _, _, _] = some (confL n0 n1 n2 n3 n4 n5)) rfl rfl (by decide) (lit_at w1 _ _) (nums_parts [n0, n1, n2, n3, n4, n5] _)).mono ?_
  rintro e w2 ⟨hb, v, rfl, hv⟩
  have HV := Lib.hid (hv.low (Nat.le_trans HB.out.size (Nat.le_trans (Nat.le_succ _) (Nat.le_of_eq (World.size_alloc _ _).symm))))
  have HB2 := Lib.hid (below_call hb (HB.out.alloc HB.out.size _))
  clear hb hv hc HB
  go_wp2
  exact ⟨rfl, .tuple #[v, .int .i64 0], by kernel_rfl, HB2.out, v, rfl, HV.out⟩
end Go.Proofs.YtmochmpamgfboaaDoor
