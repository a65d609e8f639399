/- Walks of package field: Pick, Swap, Times. Nothing that was there is turned. -/
import Derived.Test.YtciakfhjjnmeeaaFieldD
import Derived.Test.YtciakfhjjnmeeaaFieldE
import Derived.Deep.RegionWith
namespace Go.Proofs.Ytciakfhjjnmeeaa
open Go.RowKit Nt

/-- Two rows handed back. -/
theorem ret_row2 {P : Program} {fn : Func} {R : Ending → World → Prop} {a : Act} {w : World} {p p' : Tmp} {ty ty' : TypeId} (h : fn.results = #[.cell p ty, .cell p' ty']) (g g' : Nat) (cs cs' : Array Value) (t t' : TypeId)
    (hp : a.tmps.getD p undef = .pointer (some ⟨g, 0, none⟩)) (hg : w.heap[g]? = some (.cells cs t (0, 0))) (hp' : a.tmps.getD p' undef = .pointer (some ⟨g', 0, none⟩)) (hg' : w.heap[g']? = some (.cells cs' t' (0, 0)))
    (n n' : Nat) (hT : RowT P ty n) (hn : cs.size = n) (hT' : RowT P ty' n') (hn' : cs'.size = n') (hd : a.defers = [])
    (hR : R (.returned (.tuple #[.agg cs, .agg cs'])) w) : bodyPost P fn R .ret a w := by
  obtain ⟨d, h1, h2, h3⟩ := hT
  obtain ⟨d', h1', h2', h3'⟩ := hT'
  subst hn hn'
  refine bodyPost_ret (v := .tuple #[.agg cs, .agg cs']) ?_ hd hR
  have hl := run_loadVar_row (P := P) w g t ty cs (0, 0) d hg h1 (by cases d <;> simp_all) h3
  have hl' := run_loadVar_row (P := P) w g' t' ty' cs' (0, 0) d' hg' h1' (by cases d' <;> simp_all) h3'
  have e1 : a.tmps[p]?.getD undef = .pointer (some ⟨g, 0, none⟩) := by simpa using hp
  have e2 : a.tmps[p']?.getD undef = .pointer (some ⟨g', 0, none⟩) := by simpa using hp'
  simp [results, h, e1, e2, asAddr, hl, hl', Sem.run_bind]

set_option maxHeartbeats 2000000 in
set_option maxRecDepth 100000 in
theorem pick_any (b : Bool) (m x0 x1 x2 x3 x4 y0 y1 y2 y3 y4 : Int) (nx ny : F) (w : World) (hm : 0 ≤ m ∧ m < 18446744073709551616) (hb : decide (m % 2 = 1) = b) (hx : El x0 x1 x2 x3 x4 nx) (hy : El y0 y1 y2 y3 y4 ny) :
    Calls Try.prog 39 #[.int .u64 m, ev x0 x1 x2 x3 x4, ev y0 y1 y2 y3 y4] w (ElemOut (selF b nx ny) w) := by
  have HS := Lib.hid (el_sel b hx hy)
  have e1 := and_one m hm.1 hm.2
  have e2 : decide (m % 2 % 2 = 1) = b := by rw [← hb]; congr 1; apply propext; omega
  have H2 := Lib.hid e2
  have hm2 : 0 ≤ m % 2 ∧ m % 2 < 18446744073709551616 := by omega
  obtain ⟨a0, a1, a2, a3, a4, _⟩ := hx
  obtain ⟨b0, b1, b2, b3, b4, _⟩ := hy
  clear hb e2
  go_enter Try.func39, Try.ntmps39
  go_wp2_with fail
  refine (mbit_any _ _ hm2.1 hm2.2).mono ?_
  rintro e w' ⟨rfl, rfl⟩
  rw [H2.out]
  clear e1
  have R00 := new3_0 w (.cells #[.int .u64 x0, .int .u64 x1, .int .u64 x2, .int .u64 x3, .int .u64 x4] 26) (.cells #[.int .u64 y0, .int .u64 y1, .int .u64 y2, .int .u64 y3, .int .u64 y4] 26) (.cells #[.int .u64 0, .int .u64 0, .int .u64 0, .int .u64 0, .int .u64 0] 26)
  have R10 := new3_1 w (.cells #[.int .u64 x0, .int .u64 x1, .int .u64 x2, .int .u64 x3, .int .u64 x4] 26) (.cells #[.int .u64 y0, .int .u64 y1, .int .u64 y2, .int .u64 y3, .int .u64 y4] 26) (.cells #[.int .u64 0, .int .u64 0, .int .u64 0, .int .u64 0, .int .u64 0] 26)
  have R20 := new3_2 w (.cells #[.int .u64 x0, .int .u64 x1, .int .u64 x2, .int .u64 x3, .int .u64 x4] 26) (.cells #[.int .u64 y0, .int .u64 y1, .int .u64 y2, .int .u64 y3, .int .u64 y4] 26) (.cells #[.int .u64 0, .int .u64 0, .int .u64 0, .int .u64 0, .int .u64 0] 26)
  have B00 : Below w.heap.size w (((w.alloc (.cells #[.int .u64 x0, .int .u64 x1, .int .u64 x2, .int .u64 x3, .int .u64 x4] 26)).alloc (.cells #[.int .u64 y0, .int .u64 y1, .int .u64 y2, .int .u64 y3, .int .u64 y4] 26)).alloc (.cells #[.int .u64 0, .int .u64 0, .int .u64 0, .int .u64 0, .int .u64 0] 26)) := by go_grown
  go_wp2_with fail
  generalize ((w.alloc (.cells #[.int .u64 x0, .int .u64 x1, .int .u64 x2, .int .u64 x3, .int .u64 x4] 26)).alloc (.cells #[.int .u64 y0, .int .u64 y1, .int .u64 y2, .int .u64 y3, .int .u64 y4] 26)).alloc (.cells #[.int .u64 0, .int .u64 0, .int .u64 0, .int .u64 0, .int .u64 0] 26) = W0 at *
  refine wp_loop_rounds 6 ?_
  have ⟨c0, c1, c2, c3, c4⟩ := ev_row R00
  have ⟨d0, d1, d2, d3, d4⟩ := ev_row R10
  have f0 := row_free R00 0
  rw [rounds_succ]; go_wp2
  go_still_tail 13, (by kernel_rfl)
  still_call (mpick_any b x0 y0 _ (by omega) (by omega))
  repeat still_step
  try refine wpStill_nil ?_
  change wpList _ _ _ _ _ (World.drew _)
  go_wp2
  have R01 : ((W0.setCell ⟨w.heap.size, 0, none⟩ (.int .u64 (sel b x0 y0))).drew).heap[w.heap.size]? = some (.cells #[.int .u64 (sel b x0 y0), .int .u64 x1, .int .u64 x2, .int .u64 x3, .int .u64 x4] 26 (0, 0)) := row_set R00
  have R11 : ((W0.setCell ⟨w.heap.size, 0, none⟩ (.int .u64 (sel b x0 y0))).drew).heap[w.heap.size + 1]? = some (.cells #[.int .u64 y0, .int .u64 y1, .int .u64 y2, .int .u64 y3, .int .u64 y4] 26 (0, 0)) := row_set_other R10 (by omega)
  have R21 : ((W0.setCell ⟨w.heap.size, 0, none⟩ (.int .u64 (sel b x0 y0))).drew).heap[w.heap.size + 2]? = some (.cells #[.int .u64 0, .int .u64 0, .int .u64 0, .int .u64 0, .int .u64 0] 26 (0, 0)) := row_set_other R20 (by omega)
  have B01 : Below w.heap.size w ((W0.setCell ⟨w.heap.size, 0, none⟩ (.int .u64 (sel b x0 y0))).drew) := by go_grown
  clear c0 c1 c2 c3 c4 d0 d1 d2 d3 d4 f0 R00 R10 R20 B00
  generalize ((W0.setCell ⟨w.heap.size, 0, none⟩ (.int .u64 (sel b x0 y0))).drew) = W1 at *
  have ⟨c0, c1, c2, c3, c4⟩ := ev_row R01
  have ⟨d0, d1, d2, d3, d4⟩ := ev_row R11
  have f0 := row_free R01 1
  rw [rounds_succ]; go_wp2
  go_still_tail 13, (by kernel_rfl)
  still_call (mpick_any b x1 y1 _ (by omega) (by omega))
  repeat still_step
  try refine wpStill_nil ?_
  change wpList _ _ _ _ _ (World.drew _)
  go_wp2
  have R02 : ((W1.setCell ⟨w.heap.size, 1, none⟩ (.int .u64 (sel b x1 y1))).drew).heap[w.heap.size]? = some (.cells #[.int .u64 (sel b x0 y0), .int .u64 (sel b x1 y1), .int .u64 x2, .int .u64 x3, .int .u64 x4] 26 (0, 0)) := row_set R01
  have R12 : ((W1.setCell ⟨w.heap.size, 1, none⟩ (.int .u64 (sel b x1 y1))).drew).heap[w.heap.size + 1]? = some (.cells #[.int .u64 y0, .int .u64 y1, .int .u64 y2, .int .u64 y3, .int .u64 y4] 26 (0, 0)) := row_set_other R11 (by omega)
  have R22 : ((W1.setCell ⟨w.heap.size, 1, none⟩ (.int .u64 (sel b x1 y1))).drew).heap[w.heap.size + 2]? = some (.cells #[.int .u64 0, .int .u64 0, .int .u64 0, .int .u64 0, .int .u64 0] 26 (0, 0)) := row_set_other R21 (by omega)
  have B02 : Below w.heap.size w ((W1.setCell ⟨w.heap.size, 1, none⟩ (.int .u64 (sel b x1 y1))).drew) := by go_grown
  clear c0 c1 c2 c3 c4 d0 d1 d2 d3 d4 f0 R01 R11 R21 B01
  generalize ((W1.setCell ⟨w.heap.size, 1, none⟩ (.int .u64 (sel b x1 y1))).drew) = W2 at *
  have ⟨c0, c1, c2, c3, c4⟩ := ev_row R02
  have ⟨d0, d1, d2, d3, d4⟩ := ev_row R12
  have f0 := row_free R02 2
  rw [rounds_succ]; go_wp2
  go_still_tail 13, (by kernel_rfl)
  still_call (mpick_any b x2 y2 _ (by omega) (by omega))
  repeat still_step
  try refine wpStill_nil ?_
  change wpList _ _ _ _ _ (World.drew _)
  go_wp2
  have R03 : ((W2.setCell ⟨w.heap.size, 2, none⟩ (.int .u64 (sel b x2 y2))).drew).heap[w.heap.size]? = some (.cells #[.int .u64 (sel b x0 y0), .int .u64 (sel b x1 y1), .int .u64 (sel b x2 y2), .int .u64 x3, .int .u64 x4] 26 (0, 0)) := row_set R02
  have R13 : ((W2.setCell ⟨w.heap.size, 2, none⟩ (.int .u64 (sel b x2 y2))).drew).heap[w.heap.size + 1]? = some (.cells #[.int .u64 y0, .int .u64 y1, .int .u64 y2, .int .u64 y3, .int .u64 y4] 26 (0, 0)) := row_set_other R12 (by omega)
  have R23 : ((W2.setCell ⟨w.heap.size, 2, none⟩ (.int .u64 (sel b x2 y2))).drew).heap[w.heap.size + 2]? = some (.cells #[.int .u64 0, .int .u64 0, .int .u64 0, .int .u64 0, .int .u64 0] 26 (0, 0)) := row_set_other R22 (by omega)
  have B03 : Below w.heap.size w ((W2.setCell ⟨w.heap.size, 2, none⟩ (.int .u64 (sel b x2 y2))).drew) := by go_grown
  clear c0 c1 c2 c3 c4 d0 d1 d2 d3 d4 f0 R02 R12 R22 B02
  generalize ((W2.setCell ⟨w.heap.size, 2, none⟩ (.int .u64 (sel b x2 y2))).drew) = W3 at *
  have ⟨c0, c1, c2, c3, c4⟩ := ev_row R03
  have ⟨d0, d1, d2, d3, d4⟩ := ev_row R13
  have f0 := row_free R03 3
  rw [rounds_succ]; go_wp2
  go_still_tail 13, (by kernel_rfl)
  still_call (mpick_any b x3 y3 _ (by omega) (by omega))
  repeat still_step
  try refine wpStill_nil ?_
  change wpList _ _ _ _ _ (World.drew _)
  go_wp2
  have R04 : ((W3.setCell ⟨w.heap.size, 3, none⟩ (.int .u64 (sel b x3 y3))).drew).heap[w.heap.size]? = some (.cells #[.int .u64 (sel b x0 y0), .int .u64 (sel b x1 y1), .int .u64 (sel b x2 y2), .int .u64 (sel b x3 y3), .int .u64 x4] 26 (0, 0)) := row_set R03
  have R14 : ((W3.setCell ⟨w.heap.size, 3, none⟩ (.int .u64 (sel b x3 y3))).drew).heap[w.heap.size + 1]? = some (.cells #[.int .u64 y0, .int .u64 y1, .int .u64 y2, .int .u64 y3, .int .u64 y4] 26 (0, 0)) := row_set_other R13 (by omega)
  have R24 : ((W3.setCell ⟨w.heap.size, 3, none⟩ (.int .u64 (sel b x3 y3))).drew).heap[w.heap.size + 2]? = some (.cells #[.int .u64 0, .int .u64 0, .int .u64 0, .int .u64 0, .int .u64 0] 26 (0, 0)) := row_set_other R23 (by omega)
  have B04 : Below w.heap.size w ((W3.setCell ⟨w.heap.size, 3, none⟩ (.int .u64 (sel b x3 y3))).drew) := by go_grown
  clear c0 c1 c2 c3 c4 d0 d1 d2 d3 d4 f0 R03 R13 R23 B03
  generalize ((W3.setCell ⟨w.heap.size, 3, none⟩ (.int .u64 (sel b x3 y3))).drew) = W4 at *
  have ⟨c0, c1, c2, c3, c4⟩ := ev_row R04
  have ⟨d0, d1, d2, d3, d4⟩ := ev_row R14
  have f0 := row_free R04 4
  rw [rounds_succ]; go_wp2
  go_still_tail 13, (by kernel_rfl)
  still_call (mpick_any b x4 y4 _ (by omega) (by omega))
  repeat still_step
  try refine wpStill_nil ?_
  change wpList _ _ _ _ _ (World.drew _)
  go_wp2
  have R05 : ((W4.setCell ⟨w.heap.size, 4, none⟩ (.int .u64 (sel b x4 y4))).drew).heap[w.heap.size]? = some (.cells #[.int .u64 (sel b x0 y0), .int .u64 (sel b x1 y1), .int .u64 (sel b x2 y2), .int .u64 (sel b x3 y3), .int .u64 (sel b x4 y4)] 26 (0, 0)) := row_set R04
  have R15 : ((W4.setCell ⟨w.heap.size, 4, none⟩ (.int .u64 (sel b x4 y4))).drew).heap[w.heap.size + 1]? = some (.cells #[.int .u64 y0, .int .u64 y1, .int .u64 y2, .int .u64 y3, .int .u64 y4] 26 (0, 0)) := row_set_other R14 (by omega)
  have R25 : ((W4.setCell ⟨w.heap.size, 4, none⟩ (.int .u64 (sel b x4 y4))).drew).heap[w.heap.size + 2]? = some (.cells #[.int .u64 0, .int .u64 0, .int .u64 0, .int .u64 0, .int .u64 0] 26 (0, 0)) := row_set_other R24 (by omega)
  have B05 : Below w.heap.size w ((W4.setCell ⟨w.heap.size, 4, none⟩ (.int .u64 (sel b x4 y4))).drew) := by go_grown
  clear c0 c1 c2 c3 c4 d0 d1 d2 d3 d4 f0 R04 R14 R24 B04
  generalize ((W4.setCell ⟨w.heap.size, 4, none⟩ (.int .u64 (sel b x4 y4))).drew) = W5 at *
  rw [rounds_succ]
  go_wp2_with (first | (refine ld_row rfl 26 (.tmp 4) rfl _ (by rfl) _ _ R05 5 tElem (by rfl) ?_) | (refine st_row rfl 26 (.tmp 6) _ rfl _ _ (by rfl) (by rfl) _ _ R25 5 tElem (by rfl) (by rfl) (ev_one ..) ?_))
  refine ret_row rfl _ _ _ rfl (row_put R25) 5 tElem (by rfl) rfl ?_
  exact ⟨_, _, _, _, _, rfl, HS.out, below_setRow B05 (by omega) _⟩
end Go.Proofs.Ytciakfhjjnmeeaa
