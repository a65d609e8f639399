/- Numbers as bytes, the lowest first: octet.width and PutLittle at uint32, the reference's Little at four bytes. Condition: memory can hold the bytes. -/
import Derived.Test.YtmochmpamgfboaaDoorBuf
namespace Go.Proofs.YtmochmpamgfboaaDoor
open Go.RowKit
/-- A number's four bytes. -/
def le4 (x : Int) : List Int := [x % 256, x / 256 % 256, x / 65536 % 256, x / 16777216 % 256]
theorem le4_len (x : Int) : (le4 x).length = 4 := rfl
theorem le4_byt (x : Int) : Byt (le4 x) := by
  intro y hy
  simp only [le4, List.mem_cons, List.not_mem_nil, or_false] at hy
  rcases hy with rfl | rfl | rfl | rfl <;> omega
set_option maxRecDepth 100000 in
theorem width_any (w : World) : Calls Tryd.prog 80 #[] w (Gives (· = .int .i64 4) w) := by
  go_enter Tryd.func80, Tryd.ntmps80
  go_wp2
  go_loopw [1, 2] (fun v n wr => (∃ x : Int × Nat, x ∈ [(4294967295, 0), (16777215, 1), (65535, 2), (255, 3), (0, 4)] ∧ v = .int .u32 x.1 ∧ n = .int .i64 x.2) ∧ Below w.heap.size w wr) (fun _ n _ => 4 - (intOf n).toNat)
  case atStart => exact ⟨⟨(4294967295, 0), by simp, by kernel_rfl, rfl⟩, Below.refl _ _⟩
  case round =>
    obtain ⟨⟨x, hx, rfl, rfl⟩, hb⟩ := hrel
    have HB := Lib.hid hb
    clear hb
    simp only [List.mem_cons, List.not_mem_nil, or_false] at hx
    rcases hx with rfl | rfl | rfl | rfl | rfl
    · go_wp2
      go_roundw
      case rel => exact ⟨⟨(16777215, 1), by simp, by kernel_rfl, rfl⟩, HB.out⟩
      case measure => simp [intOf]
    · go_wp2
      go_roundw
      case rel => exact ⟨⟨(65535, 2), by simp, by kernel_rfl, rfl⟩, HB.out⟩
      case measure => simp [intOf]
    · go_wp2
      go_roundw
      case rel => exact ⟨⟨(255, 3), by simp, by kernel_rfl, rfl⟩, HB.out⟩
      case measure => simp [intOf]
    · go_wp2
      go_roundw
      case rel => exact ⟨⟨(0, 4), by simp, by kernel_rfl, rfl⟩, HB.out⟩
      case measure => simp [intOf]
    · go_wp2
      exact ⟨rfl, .int .i64 4, by kernel_rfl, _, rfl, rfl, HB.out⟩

theorem le4_take (x : Int) (k : Nat) (h : k < 4) : (le4 x).take k ++ [nth (le4 x) k] = (le4 x).take (k + 1) := (take_nth (le4 x) k (by rw [le4_len]; exact h)).symm
set_option maxHeartbeats 2000000 in
set_option maxRecDepth 100000 in
theorem little_any (x : Int) (w : World) :
    Calls Tryd.prog 50 #[.int .u64 x, .int .i64 4] w (NewV w (le4 x)) := by
  go_enter Tryd.func50, Tryd.ntmps50
  go_wp2
  go_loopw [5, 6] (fun v i wr => ∃ k : Nat, k ≤ 4 ∧ i = .int .i64 k ∧ Bts wr w.heap.size v ((le4 x).take k) ∧ Below w.heap.size w wr) (fun _ i _ => 4 - (intOf i).toNat)
  case atStart => exact ⟨0, by omega, rfl, bts_nil _ _, Below.refl _ _⟩
  case round =>
    obtain ⟨k, hk, rfl, hv, hb⟩ := hrel
    have HB := Lib.hid hb
    have HBS := Lib.hid hb.size
    clear hb
    by_cases hlt : k < 4
    · have HT := Lib.hid (le4_take x k hlt)
      obtain ⟨y, hy⟩ : ∃ y, y = nth (le4 x) k := ⟨_, rfl⟩
      rw [← hy] at HT
      have HY := Lib.hid (show (∀ B, Bts wr B u5 ((le4 x).take k) → ((le4 x).take k).length ≤ 4) from fun _ _ => by rw [List.length_take, le4_len]; omega)
      generalize hl : (le4 x).take k = l at *
      have HV := Lib.hid hv
      have HL := Lib.hid (HY.out _ hv)
      clear hv HY hl
      rcases (show k = 0 ∨ k = 1 ∨ k = 2 ∨ k = 3 by omega) with rfl | rfl | rfl | rfl
      all_goals (have hy' := hy; simp only [nth, le4, List.getD_cons_zero, List.getD_cons_succ] at hy'; have HY := Lib.hid hy'; clear hy hy')
      all_goals go_wp2_with (at_builtin; (refine held_append _ _ rfl ?_))
      all_goals refine wpList_app1 _ _ rfl rfl rfl rfl HB.out HV.out (by have := HL.out; omega) fun v' w' h1 h2 _ _ => ?_
      all_goals (rw [← HY.out, HT.out] at h1; have H1 := Lib.hid h1; have H2 := Lib.hid h2; clear h1 h2; go_wp2; go_roundw)
      case rel => exact ⟨1, by omega, by go_num, H1.out, H2.out⟩
      case measure => simp [intOf]
      case rel => exact ⟨2, by omega, by go_num, H1.out, H2.out⟩
      case measure => simp [intOf]
      case rel => exact ⟨3, by omega, by go_num, H1.out, H2.out⟩
      case measure => simp [intOf]
      case rel => exact ⟨4, by omega, by go_num, H1.out, H2.out⟩
      case measure => simp [intOf]
    · obtain rfl : k = 4 := by omega
      have HV := Lib.hid hv
      clear hv
      go_wp2
      exact ⟨rfl, u5, by kernel_rfl, HB.out, _, rfl, HV.out⟩

/-- make and copy: a row that begins with the bytes. -/
theorem run_copy_bts {w : World} {p : Option Addr} {l : List Int} {n c k : Nat} (ty : TypeId) (hn : l.length = n) (h : BytesIn w p l) (hp : p = none → c = 0) (m : Nat) (hm : n ≤ m) :
    (Builtin.copy_ #[26, 26] ty #[.slice (some ⟨w.heap.size, 0, none⟩) n k, .slice p n c]).run Tryd.prog (w.alloc (.cells (vals (List.replicate m 0)) 5)) = .ok (goInt n) (w.alloc (.cells (vals (l ++ List.replicate (m - n) 0)) 5)) := by
  obtain ⟨ie, hie, hz, hs, hb⟩ := u8_info
  cases p with
  | none =>
    have h0 : n = 0 := by
      rcases Nat.eq_zero_or_pos n with h0 | h0
      · exact h0
      · obtain ⟨a, e, _⟩ := h 0 (by omega)
        cases e
    subst h0
    obtain rfl : l = [] := List.eq_nil_of_length_eq_zero hn
    obtain rfl := hp rfl
    have hu := Tryd.underlying26
    simp [Builtin.copy_, run_underlying hu, sizeOf, typeInfo, hie, Builtin.firstCells, storeCells, Builtin.lenOf]
  | some a =>
    have hbs := BytesIn.src (h.under ((Below.refl _ _).alloc (Nat.le_refl _) (.cells (vals (List.replicate m 0)) 5)) (Nat.le_refl _))
    have hr := run_copy_row (P := Tryd.prog) (w.alloc (.cells (vals (List.replicate m 0)) 5)) 26 26 ty 5 w.heap.size 0 n k a n c (vals (List.replicate m 0)) 5 (l.map (Value.int .u8)) Tryd.underlying26 (by rw [hie]; simp [hs]) (heap_alloc_new w _) (by simp [hn]) hbs (by simp [vals_size, hn]; omega) (by simp [Value.oneCell'])
    rw [hr, World.setRow_alloc_new, List.length_map, hn]
    refine congrArg (fun q => Result.ok (goInt n) (w.alloc (.cells q _))) ?_
    simp [vals, List.map_append, List.map_replicate, List.drop_replicate]
theorem run_make_bts (w : World) (n m : Nat) (hnm : n ≤ m) (hm : m ≤ 140737488355328) : (Instr.makeSlice 26 (.int .i64 (n : Int)) (.int .i64 (m : Int))).run Tryd.prog w = .ok (.slice (some ⟨w.heap.size, 0, none⟩) n m) (w.alloc (.cells (vals (List.replicate m 0)) 5)) := by
  obtain ⟨ie, hie, hz, hs, hb⟩ := u8_info
  have hr := run_make (P := Tryd.prog) w 26 5 ie (.int .u8 0) Tryd.underlying26 hie hz .i64 .i64 (n : Int) (m : Int) (by omega) (by omega) (by rw [hb]; omega) (by omega)
  rw [Int.toNat_natCast, Int.toNat_natCast, hs, Nat.mul_one] at hr
  rw [hr, ← made_zero]
  rfl
set_option maxHeartbeats 2000000 in
set_option maxRecDepth 100000 in
theorem putLittle_any (p : Option Addr) (l : List Int) (n c : Nat) (x : Int) (w : World) (h0 : 0 ≤ x) (h1 : x ≤ 4294967295) (hn : l.length = n) (h : BytesIn w p l) (hp : p = none → c = 0) (hm : n ≤ 70368744177664) :
    Calls Tryd.prog 73 #[.slice p n c, .int .u32 x] w (NewV w (l ++ le4 x)) := by
  have hmk : ∀ w1 : World, (Instr.makeSlice 26 (.int .i64 (n : Int)) (.int .i64 ((n : Int) + 4))).run Tryd.prog w1 = .ok (.slice (some ⟨w1.heap.size, 0, none⟩) n (n + 4)) (w1.alloc (.cells (vals (List.replicate (n + 4) 0)) 5)) := fun w1 => by
    have := run_make_bts w1 n (n + 4) (by omega) (by omega)
    rwa [show ((n + 4 : Nat) : Int) = (n : Int) + 4 by omega] at this
  have H := Lib.hid h
  have HN := Lib.hid hn
  have HP := Lib.hid hp
  clear h hn hp
  go_enter Tryd.func73, Tryd.ntmps73
  go_wp2_with (go_at_call 80; refine (width_any _).mono ?_; rintro e w1 ⟨_, rfl, rfl, hb1⟩; have hcp := run_copy_bts (w := w1) (k := n + 4) 3 HN.out (H.out.keep hb1) HP.out (n + 4) (by omega); rw [show List.replicate (n + 4 - n) (0 : Int) = [0, 0, 0, 0] by rw [Nat.add_sub_cancel_left]; rfl] at hcp)
  have hO : Below w.heap.size w (w1.alloc (.cells (vals (l ++ [0, 0, 0, 0])) 5)) := hb1.alloc hb1.size _
  have hV : Bts (w1.alloc (.cells (vals (l ++ [0, 0, 0, 0])) 5)) w.heap.size (.slice (some ⟨w1.heap.size, 0, none⟩) l.length (n + 4)) l :=
    Bts.row (heap_alloc_new w1 _) hb1.size (by rw [HN.out]; omega) (by simp only [maxLen]; omega) (by simp [vals_size, HN.out]) (by simp [vals])
  rw [HN.out] at hV
  generalize w1.alloc (.cells (vals (l ++ [0, 0, 0, 0])) 5) = w2 at hO hV ⊢
  generalize w1.heap.size = g at hV ⊢
  have HO := Lib.hid hO
  have HV0 := Lib.hid hV
  clear hO hV hcp hmk hb1
  go_loopw [6, 20] (fun v i wr => ∃ k : Nat, k ≤ 4 ∧ i = .int .i64 k ∧ Bts wr w.heap.size v (l ++ (le4 x).take k) ∧ Below w.heap.size w wr) (fun _ i _ => 4 - (intOf i).toNat)
  case atStart => exact ⟨0, by omega, rfl, by rw [List.take_zero, List.append_nil]; exact HV0.out, HO.out⟩
  case round =>
    clear HV0 HO
    obtain ⟨k, hk, rfl, hv, hb⟩ := hrel
    have HB := Lib.hid hb
    clear hb
    by_cases hlt : k < 4
    · have HT := Lib.hid (show l ++ (le4 x).take k ++ [nth (le4 x) k] = l ++ (le4 x).take (k + 1) by rw [List.append_assoc, le4_take x k hlt])
      obtain ⟨y, hy⟩ : ∃ y, y = nth (le4 x) k := ⟨_, rfl⟩
      rw [← hy] at HT
      have hle : (l ++ (le4 x).take k).length ≤ 70368744177668 := by rw [List.length_append, HN.out, List.length_take, le4_len]; omega
      generalize hl : l ++ (le4 x).take k = l1 at *
      have HV := Lib.hid hv
      have HL := Lib.hid hle
      clear hv hle hl
      rcases (show k = 0 ∨ k = 1 ∨ k = 2 ∨ k = 3 by omega) with rfl | rfl | rfl | rfl
      all_goals (have hy' := hy; simp only [nth, le4, List.getD_cons_zero, List.getD_cons_succ] at hy'; have HY := Lib.hid hy'; clear hy hy')
      all_goals go_wp2_with (at_builtin; (refine held_append _ _ rfl ?_))
      all_goals refine wpList_app1 _ _ rfl rfl rfl rfl HB.out HV.out (by have := HL.out; omega) fun v' w' h1 h2 _ _ => ?_
      all_goals (first | rw [← HY.out, HT.out] at h1 | rw [show x / 16777216 = y by rw [HY.out]; omega, HT.out] at h1); ( have H1 := Lib.hid h1; have H2 := Lib.hid h2; clear h1 h2; go_wp2; go_roundw)
      case rel => exact ⟨1, by omega, by go_num, H1.out, H2.out⟩
      case measure => simp [intOf]
      case rel => exact ⟨2, by omega, by go_num, H1.out, H2.out⟩
      case measure => simp [intOf]
      case rel => exact ⟨3, by omega, by go_num, H1.out, H2.out⟩
      case measure => simp [intOf]
      case rel => exact ⟨4, by omega, by go_num, H1.out, H2.out⟩
      case measure => simp [intOf]
    · obtain rfl : k = 4 := by omega
      have HV := Lib.hid (show Bts wr w.heap.size u6 (l ++ le4 x) from hv)
      clear hv
      go_wp2
      exact ⟨rfl, u6, by kernel_rfl, HB.out, _, rfl, HV.out⟩
end Go.Proofs.YtmochmpamgfboaaDoor
