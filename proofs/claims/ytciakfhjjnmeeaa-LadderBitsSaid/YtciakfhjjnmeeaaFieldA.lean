/- Walks of package field: carried, word, Of, Small: what each returns; nothing that was there is turned. -/
import Derived.Test.YtciakfhjjnmeeaaProg
import Derived.Test.YtciakfhjjnmeeaaElem
import Derived.Test.YtciakfhjjnmeeaaRow
namespace Go.Proofs.Ytciakfhjjnmeeaa
open Go.RowKit Nt

theorem tElem : RowT Try.prog 26 5 := ⟨_, Try.underlying26, rfl, by kernel_rfl⟩
theorem tLimbs : RowT Try.prog 24 5 := ⟨_, Try.underlying24, rfl, by kernel_rfl⟩
theorem tBytes : RowT Try.prog 22 32 := ⟨_, Try.underlying22, rfl, by kernel_rfl⟩

/-- The value of an Elem. -/
abbrev ev (z0 z1 z2 z3 z4 : Int) : Value := .agg #[.int .u64 z0, .int .u64 z1, .int .u64 z2, .int .u64 z3, .int .u64 z4]

theorem ev_one (z0 z1 z2 z3 z4 : Int) : (#[.int .u64 z0, .int .u64 z1, .int .u64 z2, .int .u64 z3, .int .u64 z4] : Array Value).all (·.oneCell') = true := by simp [Value.oneCell']

/-- An Elem that is the number n comes back; nothing that was there is turned. -/
def ElemOut (n : F) (w : World) (e : Ending) (w' : World) : Prop :=
  ∃ z0 z1 z2 z3 z4 : Int, e = .returned (ev z0 z1 z2 z3 z4) ∧ El z0 z1 z2 z3 z4 n ∧ Below w.heap.size w w'

set_option maxHeartbeats 1000000 in
theorem carried_raw (l0 l1 l2 l3 l4 : Int) (w : World) (_a0 : 0 ≤ l0) (_b0 : l0 < 18446744073709551616) (_a1 : 0 ≤ l1) (_b1 : l1 < 18446744073709551616) (_a2 : 0 ≤ l2) (_b2 : l2 < 18446744073709551616) (_a3 : 0 ≤ l3) (_b3 : l3 < 18446744073709551616) (_a4 : 0 ≤ l4) (_b4 : l4 < 18446744073709551616) :
    Calls Try.prog 65 #[ev l0 l1 l2 l3 l4] w fun e w' => e = .returned (ev (IntKind.u64.wrap (bits .and .u64 l0 2251799813685247 + 19 * (l4 / 2251799813685248))) (IntKind.u64.wrap (bits .and .u64 l1 2251799813685247 + l0 / 2251799813685248))
      (IntKind.u64.wrap (bits .and .u64 l2 2251799813685247 + l1 / 2251799813685248)) (IntKind.u64.wrap (bits .and .u64 l3 2251799813685247 + l2 / 2251799813685248))
      (IntKind.u64.wrap (bits .and .u64 l4 2251799813685247 + l3 / 2251799813685248))) ∧ Below w.heap.size w w' := by
  go_enter Try.func65, Try.ntmps65
  go_wp2
  refine wp_loop_rounds 5 ?_
  iterate 4 (rw [rounds_succ]; go_wp2; go_region; go_wp2)
  rw [rounds_succ]; go_wp2
  go_returns
  refine ⟨rfl, ?_⟩
  go_grown

theorem carried_any (l0 l1 l2 l3 l4 : Int) (n : F) (w : World) (h : Wd l0 l1 l2 l3 l4 n) :
    Calls Try.prog 65 #[ev l0 l1 l2 l3 l4] w (ElemOut n w) := by
  have H := carry_el h
  obtain ⟨⟨a0, b0⟩, ⟨a1, b1⟩, ⟨a2, b2⟩, ⟨a3, b3⟩, ⟨a4, b4⟩, _⟩ := h
  exact (carried_raw l0 l1 l2 l3 l4 w a0 b0 a1 b1 a2 b2 a3 b3 a4 b4).mono fun _ _ ⟨h1, h2⟩ => ⟨_, _, _, _, _, h1, H, h2⟩

/-- Tight limbs out of good ones. -/
def TightOut (n : F) (w : World) (e : Ending) (w' : World) : Prop :=
  ∃ z0 z1 z2 z3 z4 : Int, e = .returned (ev z0 z1 z2 z3 z4) ∧ Tight z0 z1 z2 z3 z4 n ∧ Below w.heap.size w w'

theorem carried_tight (l0 l1 l2 l3 l4 : Int) (n : F) (w : World) (h : El l0 l1 l2 l3 l4 n) :
    Calls Try.prog 65 #[ev l0 l1 l2 l3 l4] w (TightOut n w) := by
  have H := carry_tight h
  obtain ⟨⟨a0, b0⟩, ⟨a1, b1⟩, ⟨a2, b2⟩, ⟨a3, b3⟩, ⟨a4, b4⟩, _⟩ := h
  exact (carried_raw l0 l1 l2 l3 l4 w a0 (by omega) a1 (by omega) a2 (by omega) a3 (by omega) a4 (by omega)).mono fun _ _ ⟨h1, h2⟩ => ⟨_, _, _, _, _, h1, H, h2⟩

theorem or_byte (v x : Int) (hv : 0 ≤ v) (hv' : 256 * v < 18446744073709551616) (hx : 0 ≤ x) (hx' : x < 256) : bits .or .u64 (v * 256) x = x + 256 * v := by
  go_bits2

/-- Eight bytes of memory as a word. -/
theorem word_any (l : List Int) (b o cap : Nat) (w : World) (hl : l.length = 8) (hb : Byt l) (hc : ∀ j, j < 8 → w.cell? ⟨b, o + j, none⟩ = some (.int .u8 (nth l j))) :
    Calls Try.prog 66 #[.slice (some ⟨b, o, none⟩) 8 cap] w fun e w' => e = .returned (.int .u64 (num l)) ∧ w = w' := by
  have HC := Lib.hid hc
  have HL := Lib.hid hl
  clear hc hl
  go_enter Try.func66, Try.ntmps66
  go_wp2
  go_loop [3, 4] (fun v i => ∃ k : Nat, k ≤ 8 ∧ i = .int .i64 ((k : Int) - 1) ∧ v = .int .u64 (num (l.drop k))) (fun _ i => (intOf i + 1).toNat)
  case atStart => exact ⟨8, by omega, rfl, by rw [List.drop_of_length_le (by rw [HL.out]; omega)]; rfl⟩
  case round =>
    obtain ⟨k, hk, rfl, rfl⟩ := hrel
    by_cases h0 : k = 0
    · subst h0
      go_wp2
      go_ret
      exact ⟨rfl, rfl⟩
    · obtain ⟨m, rfl⟩ : ∃ m, k = m + 1 := ⟨k - 1, by omega⟩
      have hcell := HC.out m (by omega)
      have hx := hb.nth m
      have HN := Lib.hid (num_drop l m (by rw [HL.out]; omega))
      have hv := num_drop_bound hb (m + 1) 7 (by rw [HL.out]; omega)
      go_wp2
      go_round
      case rel => exact ⟨m, by omega, by go_num, by rw [or_byte _ _ hv.1 (by omega) hx.1 hx.2, HN.out]⟩
      case measure => simp [intOf]

/-- Eight bytes out of a block of bytes. -/
theorem word_row (l : List Int) (b o cap : Nat) (T : TypeId) (w : World) (hl : l.length = 32) (ho : o + 8 ≤ 32) (hb : Byt l) (hc : w.heap[b]? = some (.cells (vals l) T (0, 0))) :
    Calls Try.prog 66 #[.slice (some ⟨b, o, none⟩) 8 cap] w fun e w' => e = .returned (.int .u64 (num ((l.drop o).take 8))) ∧ w' = w :=
  (word_any ((l.drop o).take 8) b o cap w (by simp; omega) ((hb.drop o).take 8) (fun j hj => by
    rw [cell_of_row w b (o + j) _ T _ hc, vals_get (by omega), nth_drop_take _ _ _ _ hj])).mono fun _ _ ⟨h1, h2⟩ => ⟨h1, h2.symm⟩

set_option maxHeartbeats 1000000 in
set_option maxRecDepth 100000 in
/-- The number of 32 bytes. -/
theorem of_any (l : List Int) (w : World) (hl : l.length = 32) (hb : Byt l) :
    Calls Try.prog 19 #[.agg (vals l)] w (ElemOut (numF l) w) := by
  go_enter Try.func19, Try.ntmps19
  go_wp2
  have hr : ((w.alloc (Obj.cells (vals l) 22)).alloc (Obj.cells #[.int .u64 0, .int .u64 0, .int .u64 0, .int .u64 0, .int .u64 0] 26)).heap[w.heap.size]? = some (.cells (vals l) 22 (0, 0)) := heap_alloc2_old _ _ _
  go_still_tail 20, (by kernel_rfl)
  still_call (word_row l _ _ _ _ _ hl (by omega) hb hr)
  repeat still_step
  still_call (word_row l _ _ _ _ _ hl (by omega) hb hr)
  repeat still_step
  still_call (word_row l _ _ _ _ _ hl (by omega) hb hr)
  repeat still_step
  still_call (word_row l _ _ _ _ _ hl (by omega) hb hr)
  repeat still_step
  still_call (word_row l _ _ _ _ _ hl (by omega) hb hr)
  repeat still_step
  try refine wpStill_nil ?_
  change wpList _ _ _ _ _ (World.drew _)
  clear hr
  go_wp2_with fail
  refine (carried_any _ _ _ _ _ (numF l) _ (of_limbs l hl hb)).mono ?_
  · rintro e w1 ⟨z0, z1, z2, z3, z4, rfl, hz, hb1⟩
    have HR := (hb1.block (w.heap.size + 1) (by simp)).trans (heap_alloc2_new w (Obj.cells (vals l) 22) (Obj.cells #[.int .u64 0, .int .u64 0, .int .u64 0, .int .u64 0, .int .u64 0] 26))
    go_wp2_with (refine wpList_store_row rfl 26 _ _ rfl (w.heap.size + 1) #[.int .u64 z0, .int .u64 z1, .int .u64 z2, .int .u64 z3, .int .u64 z4] (by rfl) (by rfl) 26 _ HR (by kernel_rfl) rfl (ev_one ..) ?_)
    refine bodyPost_ret (results_cell_row rfl _ _ (w.heap.size + 1) 26 _ (0, 0) _ rfl (setRow_heap _ _ _ _ _ _ HR) Try.underlying26 rfl (by kernel_rfl)) rfl ?_
    refine ⟨_, _, _, _, _, rfl, hz, ?_⟩
    refine below_setRow ?_ (by omega) _
    refine Below.trans ?_ (hb1.mono (by simp; omega))
    go_grown

set_option maxHeartbeats 1000000 in
theorem small_any (n : Int) (w : World) (h0 : 0 ≤ n) (h1 : n < 18446744073709551616) :
    Calls Try.prog 22 #[.int .u64 n] w (ElemOut (Fin.ofNat P n.toNat) w) := by
  go_enter Try.func22, Try.ntmps22
  go_wp2
  go_returns
  refine ⟨_, _, _, _, _, rfl, small_el n h0 h1, ?_⟩
  go_grown
end Go.Proofs.Ytciakfhjjnmeeaa
