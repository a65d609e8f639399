/- trystref03.Padded: the padded bytes. Condition: lengths that memory can hold. -/
import Derived.Test.YtemkpihfenokmaaDoorShaD
namespace Go.Proofs.YtemkpihfenokmaaDoor
open Go.RowKit
/-- How many noughts. -/
def padZ (n : Nat) : Nat := (119 - n % 64) % 64
/-- A number's eight bytes, the highest first. -/
def be8 (x : Int) : List Int := [x / 72057594037927936 % 256, x / 281474976710656 % 256, x / 1099511627776 % 256, x / 4294967296 % 256, x / 16777216 % 256, x / 65536 % 256, x / 256 % 256, x % 256]
def lenOf : Value → Nat
  | .slice _ n _ => n
  | _ => 0
def padL (l : List Int) : List Int := l ++ [128] ++ List.replicate (padZ l.length) 0 ++ be8 (8 * l.length)
theorem padL_len (l : List Int) : (padL l).length % 64 = 0 := by
  simp only [padL, padZ, be8, List.length_append, List.length_cons, List.length_nil, List.length_replicate]
  omega
set_option maxHeartbeats 4000000 in
set_option maxRecDepth 100000 in
theorem padded_any (p : Option Addr) (l : List Int) (n c : Nat) (w : World) (hn : l.length = n) (h : BytesIn w p l) (hm : n ≤ 70368744177664) :
    Calls Tryd.prog 17 #[.slice p n c] w (NewV w (padL l)) := by
  have H := Lib.hid h
  have HN := Lib.hid hn
  clear h hn
  go_enter Tryd.func17, Tryd.ntmps17
  go_wp2_with fail
  go_loopw [3, 4] (fun v i wr => ∃ k, k ≤ n ∧ i = .int .i64 (k : Nat) ∧ Bts wr w.heap.size v (l.take k) ∧ Below w.heap.size w wr) (fun _ i _ => n - (intOf i).toNat)
  case atStart => exact ⟨0, by omega, rfl, bts_nil _ _, Below.refl _ _⟩
  case round =>
    obtain ⟨k, hk, rfl, hbt, hb⟩ := hrel
    have HB := Lib.hid hb
    have HBT := Lib.hid hbt
    clear hb hbt
    by_cases hlt : k < n
    · obtain ⟨a2, rfl, _, x1⟩ := H.out.under HB.out (Nat.le_refl _) k (by rw [HN.out]; exact hlt)
      have HT := Lib.hid (show l.take k ++ [nth l k] = l.take (k + 1) from (take_nth l k (by rw [HN.out]; exact hlt)).symm)
      have HLE := Lib.hid (show (l.take k).length + 1 ≤ 140737488355328 by
        rw [List.length_take]
        omega)
      generalize nth l k = x at x1 HT
      go_wp2_with (at_builtin; (refine held_append _ _ rfl ?_))
      refine wpList_app1 _ _ rfl rfl rfl rfl HB.out HBT.out HLE.out fun v' w' h1 h2 _ _ => ?_
      rw [HT.out] at h1
      have H1 := Lib.hid h1
      have H2 := Lib.hid h2
      clear h1 h2
      go_wp2_with fail
      go_roundw
      case rel => exact ⟨k + 1, by omega, by go_num, H1.out, H2.out⟩
      case measure => simp [intOf]; omega
    · obtain rfl : k = n := by omega
      have HBT1 := Lib.hid (show Bts wr w.heap.size u3 l by have := HBT.out; rwa [List.take_of_length_le (Nat.le_of_eq HN.out)] at this)
      clear hlt hk HBT
      go_wp2_with (at_builtin; (refine held_append _ _ rfl ?_))
      refine wpList_app1 _ _ rfl rfl rfl rfl HB.out HBT1.out (by rw [HN.out]; omega) fun v' w' h1 h2 _ _ => ?_
      have H1 := Lib.hid h1
      have H2 := Lib.hid h2
      clear h1 h2
      go_wp2_with fail
      go_loopw [3] (fun v wr => ∃ z, z ≤ padZ k ∧ Bts wr w.heap.size v (l ++ [128] ++ List.replicate z 0) ∧ Below w.heap.size w wr) (fun v _ => k + 72 - lenOf v)
      case atStart => exact ⟨0, Nat.zero_le _, by rw [List.replicate_zero, List.append_nil]; exact H1.out, H2.out⟩
      case round =>
        clear H1 H2 HB HBT1
        obtain ⟨z, hz, hbt, hb⟩ := hrel
        have HB := Lib.hid hb
        have HBT := Lib.hid hbt
        have HL := Lib.hid (show (l ++ [128] ++ List.replicate z 0).length = k + 1 + z by simp only [List.length_append, HN.out, List.length_cons, List.length_nil, List.length_replicate])
        have HZ := Lib.hid hz
        obtain ⟨p3, c3, rfl, hi3, hp3, ho3, hl3, hx3⟩ := hbt.open
        rw [HL.out] at *
        clear hb hbt hi3 hp3 ho3 hl3 hx3
        have hpz : padZ k = (119 - k % 64) % 64 := rfl
        by_cases hlt : z < padZ k
        · have hr : ((k : Int) + 1 + z + 8).tmod 64 ≠ 0 := by rw [Int.tmod_eq_emod_of_nonneg (by omega)]; omega
          have HZ2 := Lib.hid (show z ≤ 70 ∧ z + 1 ≤ padZ k by omega)
          have hz70 := HZ2.out.1
          have hr2 : ((k : Int) + 1 + z + 8) % 64 ≠ 0 := by omega
          have hr3 : (((k : Int) + 1 + z + 8) % 64 != 0) = true := by rw [bne_iff_ne]; exact hr2
          clear hpz hlt
          go_wp2_with (at_builtin; (refine held_append _ _ rfl ?_))
          refine wpList_app1 _ _ rfl rfl rfl rfl HB.out HBT.out (by have := HZ2.out.1; simp only [List.length_append, HN.out, List.length_cons, List.length_nil, List.length_replicate]; omega) fun v' w' h1 h2 _ _ => ?_
          rw [show l ++ [128] ++ List.replicate z 0 ++ [0] = l ++ [128] ++ List.replicate (z + 1) 0 by rw [List.replicate_succ', List.append_assoc (l ++ [128])]] at h1
          have H1 := Lib.hid h1
          have H2 := Lib.hid h2
          have HLV := Lib.hid (show lenOf v' = k + 1 + z + 1 from by
            obtain ⟨p4, c4, e4, _⟩ := h1.open
            rw [e4]
            simp only [lenOf, List.length_append, HN.out, List.length_cons, List.length_nil, List.length_replicate]
            omega)
          clear h1 h2 hr hr2 hr3
          go_wp2_with fail
          go_roundw
          case rel => exact ⟨z + 1, HZ2.out.2, H1.out, H2.out⟩
          case measure =>
            have := HLV.out
            have := HZ2.out.1
            show k + 72 - lenOf v' < k + 72 - (k + 1 + z)
            rw [HLV.out]
            omega
        · have HPZ := Lib.hid (show z = padZ k by omega)
          have hr : ((k : Int) + 1 + z + 8).tmod 64 = 0 := by rw [Int.tmod_eq_emod_of_nonneg (by omega)]; omega
          have hrb : (((k : Int) + 1 + z + 8).tmod 64 != 0) = false := by rw [hr]; rfl
          have hd : (64 : Int) ∣ (k : Int) + 1 + z + 8 := ⟨((k : Int) + 1 + z + 8) / 64, by omega⟩
          have HZ3 := Lib.hid (show z ≤ 70 by omega)
          have hz70 := HZ3.out
          clear hlt hz hpz hd
          go_wp2_with fail
          go_loopw [3, 6] (fun v i wr => ∃ j : Nat, j ≤ 8 ∧ i = .int .i64 (7 - (j : Int)) ∧ Bts wr w.heap.size v (l ++ [128] ++ List.replicate z 0 ++ (be8 (8 * k)).take j) ∧ Below w.heap.size w wr) (fun _ i _ => (intOf i + 1).toNat)
          case atStart => exact ⟨0, by omega, rfl, by rw [List.take_zero, List.append_nil]; exact HBT.out, HB.out⟩
          case round =>
            clear HB HBT
            obtain ⟨j, hj, rfl, hbt, hb⟩ := hrel
            have HB := Lib.hid hb
            have HBT := Lib.hid hbt
            clear hb hbt
            rcases (show j = 0 ∨ j = 1 ∨ j = 2 ∨ j = 3 ∨ j = 4 ∨ j = 5 ∨ j = 6 ∨ j = 7 ∨ j = 8 by omega) with rfl | rfl | rfl | rfl | rfl | rfl | rfl | rfl | rfl
            · go_wp2_with (at_builtin; (refine held_append _ _ rfl ?_))
              refine wpList_app1 _ _ rfl rfl rfl rfl HB.out HBT.out (by have := HZ3.out; simp only [List.length_append, List.length_take, HN.out, List.length_cons, List.length_nil, List.length_replicate]; omega) fun v' w' h1 h2 _ _ => ?_
              rw [List.append_assoc] at h1
              have H1 := Lib.hid h1
              have H2 := Lib.hid h2
              clear h1 h2
              go_wp2_with fail
              go_roundw
              case rel => exact ⟨1, by decide, by go_num, (congrArg (Bts w' w.heap.size v') (by simp [be8]; try omega)).mp H1.out, H2.out⟩
              case measure => simp [intOf]
            · go_wp2_with (at_builtin; (refine held_append _ _ rfl ?_))
              refine wpList_app1 _ _ rfl rfl rfl rfl HB.out HBT.out (by have := HZ3.out; simp only [List.length_append, List.length_take, HN.out, List.length_cons, List.length_nil, List.length_replicate]; omega) fun v' w' h1 h2 _ _ => ?_
              rw [List.append_assoc] at h1
              have H1 := Lib.hid h1
              have H2 := Lib.hid h2
              clear h1 h2
              go_wp2_with fail
              go_roundw
              case rel => exact ⟨2, by decide, by go_num, (congrArg (Bts w' w.heap.size v') (by simp [be8]; try omega)).mp H1.out, H2.out⟩
              case measure => simp [intOf]
            · go_wp2_with (at_builtin; (refine held_append _ _ rfl ?_))
              refine wpList_app1 _ _ rfl rfl rfl rfl HB.out HBT.out (by have := HZ3.out; simp only [List.length_append, List.length_take, HN.out, List.length_cons, List.length_nil, List.length_replicate]; omega) fun v' w' h1 h2 _ _ => ?_
              rw [List.append_assoc] at h1
              have H1 := Lib.hid h1
              have H2 := Lib.hid h2
              clear h1 h2
              go_wp2_with fail
              go_roundw
              case rel => exact ⟨3, by decide, by go_num, (congrArg (Bts w' w.heap.size v') (by simp [be8]; try omega)).mp H1.out, H2.out⟩
              case measure => simp [intOf]
            · go_wp2_with (at_builtin; (refine held_append _ _ rfl ?_))
              refine wpList_app1 _ _ rfl rfl rfl rfl HB.out HBT.out (by have := HZ3.out; simp only [List.length_append, List.length_take, HN.out, List.length_cons, List.length_nil, List.length_replicate]; omega) fun v' w' h1 h2 _ _ => ?_
              rw [List.append_assoc] at h1
              have H1 := Lib.hid h1
              have H2 := Lib.hid h2
              clear h1 h2
              go_wp2_with fail
              go_roundw
              case rel => exact ⟨4, by decide, by go_num, (congrArg (Bts w' w.heap.size v') (by simp [be8]; try omega)).mp H1.out, H2.out⟩
              case measure => simp [intOf]
            · go_wp2_with (at_builtin; (refine held_append _ _ rfl ?_))
              refine wpList_app1 _ _ rfl rfl rfl rfl HB.out HBT.out (by have := HZ3.out; simp only [List.length_append, List.length_take, HN.out, List.length_cons, List.length_nil, List.length_replicate]; omega) fun v' w' h1 h2 _ _ => ?_
              rw [List.append_assoc] at h1
              have H1 := Lib.hid h1
              have H2 := Lib.hid h2
              clear h1 h2
              go_wp2_with fail
              go_roundw
              case rel => exact ⟨5, by decide, by go_num, (congrArg (Bts w' w.heap.size v') (by simp [be8]; try omega)).mp H1.out, H2.out⟩
              case measure => simp [intOf]
            · go_wp2_with (at_builtin; (refine held_append _ _ rfl ?_))
              refine wpList_app1 _ _ rfl rfl rfl rfl HB.out HBT.out (by have := HZ3.out; simp only [List.length_append, List.length_take, HN.out, List.length_cons, List.length_nil, List.length_replicate]; omega) fun v' w' h1 h2 _ _ => ?_
              rw [List.append_assoc] at h1
              have H1 := Lib.hid h1
              have H2 := Lib.hid h2
              clear h1 h2
              go_wp2_with fail
              go_roundw
              case rel => exact ⟨6, by decide, by go_num, (congrArg (Bts w' w.heap.size v') (by simp [be8]; try omega)).mp H1.out, H2.out⟩
              case measure => simp [intOf]
            · go_wp2_with (at_builtin; (refine held_append _ _ rfl ?_))
              refine wpList_app1 _ _ rfl rfl rfl rfl HB.out HBT.out (by have := HZ3.out; simp only [List.length_append, List.length_take, HN.out, List.length_cons, List.length_nil, List.length_replicate]; omega) fun v' w' h1 h2 _ _ => ?_
              rw [List.append_assoc] at h1
              have H1 := Lib.hid h1
              have H2 := Lib.hid h2
              clear h1 h2
              go_wp2_with fail
              go_roundw
              case rel => exact ⟨7, by decide, by go_num, (congrArg (Bts w' w.heap.size v') (by simp [be8]; try omega)).mp H1.out, H2.out⟩
              case measure => simp [intOf]
            · go_wp2_with (at_builtin; (refine held_append _ _ rfl ?_))
              refine wpList_app1 _ _ rfl rfl rfl rfl HB.out HBT.out (by have := HZ3.out; simp only [List.length_append, List.length_take, HN.out, List.length_cons, List.length_nil, List.length_replicate]; omega) fun v' w' h1 h2 _ _ => ?_
              rw [List.append_assoc] at h1
              have H1 := Lib.hid h1
              have H2 := Lib.hid h2
              clear h1 h2
              go_wp2_with fail
              go_roundw
              case rel => exact ⟨8, by decide, by go_num, (congrArg (Bts w' w.heap.size v') (by simp [be8]; try omega)).mp H1.out, H2.out⟩
              case measure => simp [intOf]
            · go_wp2_with fail
              exact ⟨rfl, u3, by kernel_rfl, HB.out, u3, rfl, by rw [padL, HN.out, ← HPZ.out]; exact HBT.out⟩
end Go.Proofs.YtemkpihfenokmaaDoor
