/- One of the 64 steps of a block: digest.step. No condition. -/
import Derived.Test.YtemkpihfenokmaaDoorShaA
import Derived.Test.YtemkpihfenokmaaDoorOpsU
namespace Go.Proofs.YtemkpihfenokmaaDoor
open Go.RowKit
/-- A row of words. -/
def words (l : List Int) : Array Value := (l.map (Value.int .u32)).toArray
theorem words_size (l : List Int) : (words l).size = l.length := by simp [words]
theorem words_one (l : List Int) : (words l).all (·.oneCell') = true := by simp [words, Value.oneCell']
theorem words_get {l : List Int} {j : Nat} (h : j < l.length) : (words l)[j]? = some (.int .u32 (nth l j)) := by
  simp only [words, List.getElem?_toArray, List.getElem?_map, List.getElem?_eq_getElem h, Option.map_some, nth, List.getD_eq_getElem?_getD, Option.getD_some]
theorem words_set (l : List Int) (j : Nat) (x : Int) : (words l).setIfInBounds j (.int .u32 x) = words (l.set j x) := by
  apply Array.ext'
  simp [words, List.map_set]
def sg1 (e : Int) : Int := bits .xor .u32 (bits .xor .u32 (turn 67108864 64 e) (turn 2097152 2048 e)) (turn 128 33554432 e)
def chs (e f g : Int) : Int := bits .xor .u32 (bits .and .u32 e f) (bits .and .u32 (bits .xor .u32 IntKind.u32.max e) g)
def sg0 (a : Int) : Int := bits .xor .u32 (bits .xor .u32 (turn 1073741824 4 a) (turn 524288 8192 a)) (turn 1024 4194304 a)
def maj (a b c : Int) : Int := bits .xor .u32 (bits .xor .u32 (bits .and .u32 a b) (bits .and .u32 a c)) (bits .and .u32 b c)
/-- The eight words behind a step. -/
def stepL (a b c d e f g h kw : Int) : List Int := [(h + sg1 e + chs e f g + kw + (sg0 a + maj a b c)) % 4294967296, a, b, c, (d + (h + sg1 e + chs e f g + kw)) % 4294967296, e, f, g]
theorem tW8 : RowT Tryd.prog 50 8 := ⟨_, Tryd.underlying50, rfl, by kernel_rfl⟩
set_option maxHeartbeats 4000000 in
set_option maxRecDepth 100000 in
theorem step_any (a b c d e f g z kw : Int) (w : World) : Calls Tryd.prog 28 #[.agg (words [a, b, c, d, e, f, g, z]), .int .u32 kw] w (fun e1 w' => e1 = .returned (.agg (words (stepL a b c d e f g z kw))) ∧ Below w.heap.size w w') := by
  change Calls Tryd.prog 28 #[.agg #[.int .u32 a, .int .u32 b, .int .u32 c, .int .u32 d, .int .u32 e, .int .u32 f, .int .u32 g, .int .u32 z], .int .u32 kw] w _
  have HR := Lib.hid (heap_alloc2_new w (.cells (words [a, b, c, d, e, f, g, z]) 50) (.cells (words [0, 0, 0, 0, 0, 0, 0, 0]) 50))
  have HB := Lib.hid (((Below.refl w.heap.size w).alloc (Nat.le_refl _) (.cells (words [a, b, c, d, e, f, g, z]) 50)).alloc (by simp) (.cells (words [0, 0, 0, 0, 0, 0, 0, 0]) 50))
  have T6 : True := trivial
  have T11 : True := trivial
  have T25 : True := trivial
  have T2 : True := trivial
  have T13 : True := trivial
  have T22 : True := trivial
  go_enter Tryd.func28, Tryd.ntmps28
  go_wp2_with fail
  go_quiet (fail)
  go_wp2_with first
    | (go_at_call 27; refine ((fun (_ : True) => rotL_6 _ _) T6).mono ?_; rintro e w1 ⟨rfl, rfl⟩; clear T6)
    | (go_at_call 27; refine ((fun (_ : True) => rotL_11 _ _) T11).mono ?_; rintro e w1 ⟨rfl, rfl⟩; clear T11)
    | (go_at_call 27; refine ((fun (_ : True) => rotL_25 _ _) T25).mono ?_; rintro e w1 ⟨rfl, rfl⟩; clear T25)
    | (go_at_call 27; refine ((fun (_ : True) => rotL_2 _ _) T2).mono ?_; rintro e w1 ⟨rfl, rfl⟩; clear T2)
    | (go_at_call 27; refine ((fun (_ : True) => rotL_13 _ _) T13).mono ?_; rintro e w1 ⟨rfl, rfl⟩; clear T13)
    | (go_at_call 27; refine ((fun (_ : True) => rotL_22 _ _) T22).mono ?_; rintro e w1 ⟨rfl, rfl⟩; clear T22)
    | ((with_reducible refine guard_list ?_); refine held_st 50 _ _ rfl ?_)
  refine st_row rfl 50 _ _ rfl (w.heap.size + 1) (words (stepL a b c d e f g z kw)) rfl (by kernel_rfl) _ _ HR.out 8 tW8 rfl rfl (words_one _) ?_
  have HR2 := Lib.hid (row_put (cs' := words (stepL a b c d e f g z kw)) HR.out)
  clear HR
  go_wp2_with fail
  refine ret_row rfl _ _ _ rfl HR2.out 8 tW8 rfl rfl ?_
  exact ⟨rfl, below_setRow (below_drn HB.out nq) (show w.heap.size ≤ w.heap.size + 1 by omega) _⟩
end Go.Proofs.YtemkpihfenokmaaDoor
