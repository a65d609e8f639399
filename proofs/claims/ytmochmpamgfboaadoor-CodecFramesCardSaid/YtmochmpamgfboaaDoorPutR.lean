/- trystref20.PutConfig. No condition. -/
import Derived.Test.YtmochmpamgfboaaDoorRowB
namespace Go.Proofs.YtmochmpamgfboaaDoor
open Go.RowKit
theorem le4_32 (x : Int) : le4 (x % 4294967296) = le4 x := by
  simp only [le4, List.cons.injEq, and_true]
  refine ⟨?_, ?_, ?_, ?_⟩ <;> omega
theorem le4_64 (x : Int) : le4 (x % 18446744073709551616) = le4 x := by
  simp only [le4, List.cons.injEq, and_true]
  refine ⟨?_, ?_, ?_, ?_⟩ <;> omega
theorem le4_u64 (x : Int) : le4 (IntKind.u64.wrap x) = le4 x := by
  rw [show IntKind.u64.wrap x = x % 18446744073709551616 by simp [IntKind.wrap, IntKind.bits, IntKind.signed]]
  exact le4_64 x
set_option maxHeartbeats 4000000 in
set_option maxRecDepth 100000 in
theorem putConfigR_no {n0 n1 n2 n3 n4 n5 : Int} (h : ¬ good n0 n1 n2 n3 n4 n5 = true) (w : World) :
    Calls Tryd.prog 36 #[.agg #[.int .i64 n0, .int .i64 n1, .int .i64 n2, .int .i64 n3, .int .i64 n4, .int .i64 n5]] w (Gives (· = .tuple #[.slice none 0 0, .int .i64 200]) w) := by
  have HG := Lib.hid h
  clear h
  go_enter Tryd.func36, Tryd.ntmps36
  go_wp2_with (go_at_call 38; refine (checkR_no HG.out _).mono ?_; rintro e w1 ⟨_, rfl, rfl, hb⟩)
  exact ⟨rfl, .tuple #[.slice none 0 0, .int .i64 200], by kernel_rfl, _, rfl, rfl, below_call hb (by go_grown)⟩
theorem flat_append (vs : List Row1) (r : Row1) : flat (vs ++ [r]) = flat vs ++ r.2.2 := by simp [flat]
/-- The numbers' bytes, one behind the other. -/
def nums (xs : List Int) : List Int := (xs.map le4).flatten
theorem nums_take (xs : List Int) (k : Nat) (h : k < xs.length) : nums (xs.take (k + 1)) = nums (xs.take k) ++ le4 (nth xs k) := by
  rw [nums, take_nth xs k h]
  simp [nums]
theorem nums_len : ∀ (xs : List Int), (nums xs).length = 4 * xs.length
  | [] => rfl
  | x :: xs => by
    have := nums_len xs
    simp only [nums, List.map_cons, List.flatten_cons, List.length_append, le4_len, List.length_cons] at this ⊢
    omega
theorem confL_nums (n0 n1 n2 n3 n4 n5 : Int) : confL n0 n1 n2 n3 n4 n5 = nums [n0, n1, n2, n3, n4, n5] := by
  simp only [confL, le4_32]
  rfl
set_option maxHeartbeats 4000000 in
set_option maxRecDepth 100000 in
theorem putConfigR_yes {n0 n1 n2 n3 n4 n5 : Int} (h : good n0 n1 n2 n3 n4 n5 = true) (w : World) :
    Calls Tryd.prog 36 #[.agg #[.int .i64 n0, .int .i64 n1, .int .i64 n2, .int .i64 n3, .int .i64 n4, .int .i64 n5]] w (LaidV w (confL n0 n1 n2 n3 n4 n5)) := by
  have HG := Lib.hid h
  clear h
  go_enter Tryd.func36, Tryd.ntmps36
  go_wp2_with (go_at_call 38; refine (checkR_yes HG.out _).mono ?_; rintro e w1 ⟨_, rfl, rfl, hb⟩; have hc := conf_cells (heap_alloc_new w _) hb; have HB := Lib.hid (show Below w.heap.size w w1 from below_call hb (by go_grown)); clear hb)
  have hrow := heap_alloc_new w1 (.cells (#[n0, n1, n2, n3, n4, n5].map (Value.int .i64)) 3)
  have hB2 := HB.out.alloc HB.out.size (.cells (#[n0, n1, n2, n3, n4, n5].map (Value.int .i64)) 3)
  have e : w1.alloc (.cells (#[n0, n1, n2, n3, n4, n5].map (Value.int .i64)) 3) = w1.alloc (.cells #[.int .i64 n0, .int .i64 n1, .int .i64 n2, .int .i64 n3, .int .i64 n4, .int .i64 n5] 3) := by simp
  rw [e] at hrow hB2
  generalize w1.alloc (.cells #[.int .i64 n0, .int .i64 n1, .int .i64 n2, .int .i64 n3, .int .i64 n4, .int .i64 n5] 3) = b at hrow hB2 ⊢
  generalize w1.heap.size = g at hrow ⊢
  have HROW := Lib.hid (show b.heap[g]? = some (.cells ([n0, n1, n2, n3, n4, n5].map (Value.int .i64)).toArray 3 (0, 0)) by simpa using hrow)
  have HB2 := Lib.hid hB2
  clear hrow hB2 e hc HB
  go_loopw [5, 6] (fun v i wr => ∃ (k : Nat) (vs : List Row1), k ≤ 6 ∧ vs.length = k ∧ i = .int .i64 k ∧ flat vs = nums ([n0, n1, n2, n3, n4, n5].take k) ∧ RowsOwn wr b.heap.size v vs ∧ Below b.heap.size b wr) (fun _ i _ => 6 - (intOf i).toNat)
  case atStart => exact ⟨0, [], by omega, rfl, rfl, rfl, rowsOwn_nil _ _, Below.refl _ _⟩
  case round =>
    obtain ⟨k, vs, hk, hvs, rfl, hfl, hro, hb⟩ := hrel
    have HB := Lib.hid hb
    have HR := Lib.hid hro
    have HF := Lib.hid hfl
    have HVS := Lib.hid hvs
    clear hb hro hfl hvs
    by_cases hlt : k < 6
    · have hc : wr.cell? ⟨g, k, none⟩ = some (.int .i64 (nth [n0, n1, n2, n3, n4, n5] k)) := by
        rw [HB.out.cell (Array.getElem?_eq_some_iff.1 HROW.out).1, cell_of_row b g k _ _ _ HROW.out]
        rcases (show k = 0 ∨ k = 1 ∨ k = 2 ∨ k = 3 ∨ k = 4 ∨ k = 5 by omega) with rfl | rfl | rfl | rfl | rfl | rfl <;> rfl
      have HT := Lib.hid (nums_take [n0, n1, n2, n3, n4, n5] k hlt)
      generalize nth [n0, n1, n2, n3, n4, n5] k = x at hc HT
      go_wp2_with first | (go_at_call 50; refine (little_any _ _).mono ?_; rintro e w3 ⟨hb3, v3, rfl, hv3⟩; rw [le4_u64] at hv3; obtain ⟨p3, c3, rfl, hel, hob⟩ := hv3.el; have HB3 := Lib.hid hb3; have HEL := Lib.hid hel; have HOB := Lib.hid (show ∀ a, p3 = some a → wr.heap.size ≤ a.block from fun a ha => (hv3.lt _ (hob a ha)).1); clear hb3 hv3 hel hob; rw [le4_len]) | (at_builtin; (refine held_append _ _ rfl ?_))
      refine wpList_appR (p3, c3, le4 x) _ _ rfl rfl rfl rfl (below_call HB3.out HB.out) (HR.out.under HB3.out) HEL.out (fun a ha e => by
        have h1 := HOB.out a ha
        have h2 := (HR.out.lt _ e.symm).2
        omega) (by rw [HVS.out]; omega) fun v' w' h1 h2 _ _ => ?_
      have H1 := Lib.hid h1
      have H2 := Lib.hid h2
      clear h1 h2
      go_wp2
      go_roundw
      case rel => exact ⟨k + 1, _, by omega, by rw [List.length_append, HVS.out]; rfl, by go_num, by rw [flat_append, HF.out, HT.out], H1.out, H2.out⟩
      case measure => simp [intOf]; omega
    · obtain rfl : k = 6 := by omega
      obtain ⟨p, c, rfl, hri, hpn⟩ := HR.out.open
      have HRI := Lib.hid hri
      clear hri
      have HFL := Lib.hid (show flat vs = confL n0 n1 n2 n3 n4 n5 by rw [HF.out, confL_nums]; rfl)
      rw [HVS.out]
      go_wp2_with (go_at_call 51; refine (join_any p 6 c vs _ HVS.out HRI.out (by decide) (by rw [HFL.out, confL_nums, nums_len]; simp)).mono ?_; rintro e w3 ⟨hb3, v3, rfl, hv3⟩; rw [HFL.out] at hv3)
      exact ⟨rfl, .tuple #[v3, .int .i64 0], by kernel_rfl, below_call (below_call hb3 HB.out) HB2.out, v3, rfl, hv3.low (Nat.le_trans HB2.out.size HB.out.size)⟩
end Go.Proofs.YtmochmpamgfboaaDoor
