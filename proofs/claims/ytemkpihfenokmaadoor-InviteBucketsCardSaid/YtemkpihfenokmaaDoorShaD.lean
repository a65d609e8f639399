/- The reference's word, keys, begin. Condition: bytes. -/
import Derived.Test.YtemkpihfenokmaaDoorShaC
namespace Go.Proofs.YtemkpihfenokmaaDoor
open Go.RowKit
/-- The four bytes from a place on, as a word. -/
def wordB (b : List Int) (i : Nat) : Int := bits .or .u32 (bits .or .u32 (bits .or .u32 (nth b i * 16777216) (nth b (i + 1) * 65536)) (nth b (i + 2) * 256)) (nth b (i + 3))
theorem nth_part {b : List Int} {i k : Nat} (hk : k < 64) : nth ((b.drop i).take 64) k = nth b (i + k) := by
  simp only [nth, List.getD_eq_getElem?_getD]
  rw [List.getElem?_take, if_pos hk, List.getElem?_drop]
theorem wordB_at (b : List Int) (i t : Nat) (ht : t < 16) : wordB b (i + 4 * t) = wordAt ((b.drop i).take 64) t := by
  rw [wordB, wordAt, nth_part (by omega), nth_part (by omega), nth_part (by omega), nth_part (by omega)]
  rfl
set_option maxHeartbeats 4000000 in
set_option maxRecDepth 100000 in
theorem word_any (p : Option Addr) (b : List Int) (n c i : Nat) (w : World) (hn : b.length = n) (hb : Byt b) (h : BytesIn w p b) (hi : i + 4 ≤ n) (hm : n ≤ 281474976710656) :
    Calls Tryd.prog 24 #[.slice p n c, .int .i64 (i : Nat)] w (fun e w' => e = .returned (.int .u32 (wordB b i)) ∧ Below w.heap.size w w') := by
  obtain ⟨ad, rfl, _, c0⟩ := h i (by omega)
  obtain ⟨ad1, e1, _, c1⟩ := h (i + 1) (by omega)
  obtain ⟨ad2, e2, _, c2⟩ := h (i + 2) (by omega)
  obtain ⟨ad3, e3, _, c3⟩ := h (i + 3) (by omega)
  obtain rfl := Option.some.inj e1
  obtain rfl := Option.some.inj e2
  obtain rfl := Option.some.inj e3
  have h0 := hb.nth i
  have h1 := hb.nth (i + 1)
  have h2 := hb.nth (i + 2)
  have h3 := hb.nth (i + 3)
  clear e1 e2 e3 h hb hn
  rw [wordB]
  generalize nth b i = x0 at *
  generalize nth b (i + 1) = x1 at *
  generalize nth b (i + 2) = x2 at *
  generalize nth b (i + 3) = x3 at *
  go_enter Tryd.func24, Tryd.ntmps24
  go_wp2_with fail
  have l0 : (i : Int) < n := by omega
  have q0 : 0 ≤ (i : Int) := by omega
  have ln : i < n := by omega
  have e1 : IntKind.i64.wrap ((i : Int) + 1) = (i : Int) + 1 := IntWalk.i64_in _ (by omega)
  have n1 : ((i : Int) + 1).toNat = i + 1 := by omega
  have q1 : 0 ≤ (i : Int) + 1 := by omega
  have l1 : (i : Int) + 1 < n := by omega
  have ln1 : i + 1 < n := by omega
  have e2 : IntKind.i64.wrap ((i : Int) + 2) = (i : Int) + 2 := IntWalk.i64_in _ (by omega)
  have n2 : ((i : Int) + 2).toNat = i + 2 := by omega
  have q2 : 0 ≤ (i : Int) + 2 := by omega
  have l2 : (i : Int) + 2 < n := by omega
  have ln2 : i + 2 < n := by omega
  have e3 : IntKind.i64.wrap ((i : Int) + 3) = (i : Int) + 3 := IntWalk.i64_in _ (by omega)
  have n3 : ((i : Int) + 3).toNat = i + 3 := by omega
  have q3 : 0 ≤ (i : Int) + 3 := by omega
  have l3 : (i : Int) + 3 < n := by omega
  have ln3 : i + 3 < n := by omega
  have c1' : w.cell? ⟨ad.block, ad.off + (i + 1), none⟩ = some (.int .u8 x1) := c1
  have c2' : w.cell? ⟨ad.block, ad.off + (i + 2), none⟩ = some (.int .u8 x2) := c2
  have c3' : w.cell? ⟨ad.block, ad.off + (i + 3), none⟩ = some (.int .u8 x3) := c3
  have w0 : IntKind.u32.wrap x0 = x0 := by rw [IntKind.wrap_u32]; omega
  have w1 : IntKind.u32.wrap x1 = x1 := by rw [IntKind.wrap_u32]; omega
  have w2 : IntKind.u32.wrap x2 = x2 := by rw [IntKind.wrap_u32]; omega
  have w3 : IntKind.u32.wrap x3 = x3 := by rw [IntKind.wrap_u32]; omega
  have v0 : IntKind.u32.wrap (x0 * 16777216) = x0 * 16777216 := by rw [IntKind.wrap_u32]; omega
  have v1 : IntKind.u32.wrap (x1 * 65536) = x1 * 65536 := by rw [IntKind.wrap_u32]; omega
  have v2 : IntKind.u32.wrap (x2 * 256) = x2 * 256 := by rw [IntKind.wrap_u32]; omega
  go_quiet (fail)
  go_wp2_with fail
  exact ⟨rfl, .int .u32 (bits .or .u32 (bits .or .u32 (bits .or .u32 (x0 * 16777216) (x1 * 65536)) (x2 * 256)) x3), by kernel_rfl, rfl, below_drewN w nq⟩
def first8 : List Int := [1779033703, 3144134277, 1013904242, 2773480762, 1359893119, 2600822924, 528734635, 1541459225]
set_option maxHeartbeats 4000000 in
set_option maxRecDepth 100000 in
theorem begin_any (w : World) : Calls Tryd.prog 18 #[] w (fun e w' => e = .returned (.agg (words first8)) ∧ Below w.heap.size w w') := by
  go_enter Tryd.func18, Tryd.ntmps18
  go_wp2_with ((with_reducible refine guard_list ?_); refine held_st 50 _ _ rfl ?_)
  refine st_row rfl 50 _ _ rfl w.heap.size (words first8) rfl (by kernel_rfl) _ _ (heap_alloc_new w _) 8 tW8 rfl rfl (words_one _) ?_
  rw [World.setRow_alloc_new]
  go_wp2_with fail
  refine ret_row rfl _ _ _ rfl (heap_alloc_new w (.cells (words first8) 50)) 8 tW8 rfl rfl ?_
  exact ⟨rfl, (Below.refl _ _).alloc (Nat.le_refl _) _⟩
set_option maxHeartbeats 4000000 in
set_option maxRecDepth 100000 in
theorem keys_any (w : World) : Calls Tryd.prog 26 #[] w (fun e w' => e = .returned (.agg (words K64)) ∧ Below w.heap.size w w') := by
  go_enter Tryd.func26, Tryd.ntmps26
  go_wp2_with ((with_reducible refine guard_list ?_); refine held_st 59 _ _ rfl ?_)
  refine st_row rfl 59 _ _ rfl w.heap.size (words K64) rfl (by kernel_rfl) _ _ (heap_alloc_new w _) 64 tW64 rfl rfl (words_one _) ?_
  rw [World.setRow_alloc_new]
  go_wp2_with fail
  refine ret_row rfl _ _ _ rfl (heap_alloc_new w (.cells (words K64) 59)) 64 tW64 rfl rfl ?_
  exact ⟨rfl, (Below.refl _ _).alloc (Nat.le_refl _) _⟩
end Go.Proofs.YtemkpihfenokmaaDoor
