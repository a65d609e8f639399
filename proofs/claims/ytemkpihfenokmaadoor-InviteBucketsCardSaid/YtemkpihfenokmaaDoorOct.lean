/- Numbers out of eight bytes: octet.width, fits, low, Little at uint64. -/
import Derived.Test.YtemkpihfenokmaaDoorBuf
namespace Go.Proofs.YtemkpihfenokmaaDoor
open Go.RowKit
theorem or64_0 (v x : Int) (hv : 0 ≤ v) (hv' : v < 1) (hx : 0 ≤ x) (hx' : x < 256) : bits .or .u64 v (x) = v + 1 * x := by
  obtain rfl : v = 0 := by omega
  go_bits2
theorem or64_1 (v x : Int) (hv : 0 ≤ v) (hv' : v < 256) (hx : 0 ≤ x) (hx' : x < 256) : bits .or .u64 v (x * 256) = v + 256 * x := by
  go_bits2
theorem or64_2 (v x : Int) (hv : 0 ≤ v) (hv' : v < 65536) (hx : 0 ≤ x) (hx' : x < 256) : bits .or .u64 v (x * 65536) = v + 65536 * x := by
  go_bits2
theorem or64_3 (v x : Int) (hv : 0 ≤ v) (hv' : v < 16777216) (hx : 0 ≤ x) (hx' : x < 256) : bits .or .u64 v (x * 16777216) = v + 16777216 * x := by
  go_bits2
theorem or64_4 (v x : Int) (hv : 0 ≤ v) (hv' : v < 4294967296) (hx : 0 ≤ x) (hx' : x < 256) : bits .or .u64 v (x * 4294967296) = v + 4294967296 * x := by
  go_bits2
theorem or64_5 (v x : Int) (hv : 0 ≤ v) (hv' : v < 1099511627776) (hx : 0 ≤ x) (hx' : x < 256) : bits .or .u64 v (x * 1099511627776) = v + 1099511627776 * x := by
  go_bits2
theorem or64_6 (v x : Int) (hv : 0 ≤ v) (hv' : v < 281474976710656) (hx : 0 ≤ x) (hx' : x < 256) : bits .or .u64 v (x * 281474976710656) = v + 281474976710656 * x := by
  go_bits2
theorem or64_7 (v x : Int) (hv : 0 ≤ v) (hv' : v < 72057594037927936) (hx : 0 ≤ x) (hx' : x < 256) : bits .or .u64 v (x * 72057594037927936) = v + 72057594037927936 * x := by
  go_bits2
set_option maxRecDepth 100000 in
theorem low64_any (p : Option Addr) (l : List Int) (c : Nat) (w : World) (hn : l.length = 8) (hb : Byt l) (h : BytesIn w p l) :
    Calls Tryd.prog 16 #[.slice p 8 c] w (Gives (· = .int .u64 (num l)) w) := by
  have H := Lib.hid h
  have HN := Lib.hid hn
  have HB := Lib.hid hb
  clear h hn hb
  go_enter Tryd.func16, Tryd.ntmps16
  go_wp2
  go_loopw [3, 8] (fun v i wr => ∃ k : Nat, k ≤ 8 ∧ i = .int .i64 k ∧ v = .int .u64 (num (l.take k)) ∧ Below w.heap.size w wr) (fun _ i _ => 8 - (intOf i).toNat)
  case atStart => exact ⟨0, by omega, rfl, rfl, Below.refl _ _⟩
  case round =>
    obtain ⟨k, hk, rfl, rfl, hbel⟩ := hrel
    have HBL := Lib.hid hbel
    clear hbel
    by_cases hlt : k < 8
    · obtain ⟨a, rfl, _, x1⟩ := H.out.under HBL.out (Nat.le_refl _) k (by rw [HN.out]; exact hlt)
      have hx := HB.out.nth k
      have hs : num (l.take (k + 1)) = num (l.take k) + 256 ^ k * nth l k := by
        rw [take_nth l k (by rw [HN.out]; exact hlt), num_append, List.length_take, HN.out, Nat.min_eq_left hk]
        simp [num]
      have hv := num_bound _ (HB.out.take k)
      rw [List.length_take, HN.out, Nat.min_eq_left hk] at hv
      generalize num (l.take k) = v at *
      generalize nth l k = x at *
      rcases (show k = 0 ∨ k = 1 ∨ k = 2 ∨ k = 3 ∨ k = 4 ∨ k = 5 ∨ k = 6 ∨ k = 7 by omega) with rfl | rfl | rfl | rfl | rfl | rfl | rfl | rfl
      · have HS := Lib.hid hs
        clear hs
        change wr.cell? a = _ at x1
        go_wp2
        go_roundw
        case rel => exact ⟨1, by omega, by go_num, by rw [HS.out]; exact congrArg _ (or64_0 v x hv.1 hv.2 hx.1 hx.2), HBL.out⟩
        case measure => simp [intOf]
      · have HS := Lib.hid hs
        clear hs
        change wr.cell? ⟨a.block, a.off + 1, none⟩ = _ at x1
        go_wp2
        go_roundw
        case rel => exact ⟨2, by omega, by go_num, by rw [HS.out]; exact congrArg _ (or64_1 v x hv.1 hv.2 hx.1 hx.2), HBL.out⟩
        case measure => simp [intOf]
      · have HS := Lib.hid hs
        clear hs
        change wr.cell? ⟨a.block, a.off + 2, none⟩ = _ at x1
        go_wp2
        go_roundw
        case rel => exact ⟨3, by omega, by go_num, by rw [HS.out]; exact congrArg _ (or64_2 v x hv.1 hv.2 hx.1 hx.2), HBL.out⟩
        case measure => simp [intOf]
      · have HS := Lib.hid hs
        clear hs
        change wr.cell? ⟨a.block, a.off + 3, none⟩ = _ at x1
        go_wp2
        go_roundw
        case rel => exact ⟨4, by omega, by go_num, by rw [HS.out]; exact congrArg _ (or64_3 v x hv.1 hv.2 hx.1 hx.2), HBL.out⟩
        case measure => simp [intOf]
      · have HS := Lib.hid hs
        clear hs
        change wr.cell? ⟨a.block, a.off + 4, none⟩ = _ at x1
        go_wp2
        go_roundw
        case rel => exact ⟨5, by omega, by go_num, by rw [HS.out]; exact congrArg _ (or64_4 v x hv.1 hv.2 hx.1 hx.2), HBL.out⟩
        case measure => simp [intOf]
      · have HS := Lib.hid hs
        clear hs
        change wr.cell? ⟨a.block, a.off + 5, none⟩ = _ at x1
        go_wp2
        go_roundw
        case rel => exact ⟨6, by omega, by go_num, by rw [HS.out]; exact congrArg _ (or64_5 v x hv.1 hv.2 hx.1 hx.2), HBL.out⟩
        case measure => simp [intOf]
      · have HS := Lib.hid hs
        clear hs
        change wr.cell? ⟨a.block, a.off + 6, none⟩ = _ at x1
        go_wp2
        go_roundw
        case rel => exact ⟨7, by omega, by go_num, by rw [HS.out]; exact congrArg _ (or64_6 v x hv.1 hv.2 hx.1 hx.2), HBL.out⟩
        case measure => simp [intOf]
      · have HS := Lib.hid hs
        clear hs
        change wr.cell? ⟨a.block, a.off + 7, none⟩ = _ at x1
        go_wp2
        go_roundw
        case rel => exact ⟨8, by omega, by go_num, by rw [HS.out]; exact congrArg _ (or64_7 v x hv.1 hv.2 hx.1 hx.2), HBL.out⟩
        case measure => simp [intOf]
    · obtain rfl : k = 8 := by omega
      have e : l.take 8 = l := List.take_of_length_le (Nat.le_of_eq HN.out)
      rw [e]
      go_wp2
      exact ⟨rfl, .int .u64 (num l), by kernel_rfl, _, rfl, rfl, HBL.out⟩
set_option maxRecDepth 100000 in
theorem width64_any (w : World) : Calls Tryd.prog 23 #[] w (Gives (· = .int .i64 8) w) := by
  go_enter Tryd.func23, Tryd.ntmps23
  go_wp2
  go_loopw [1, 2] (fun v n wr => (∃ x : Int × Nat, x ∈ [(18446744073709551615, 0), (72057594037927935, 1), (281474976710655, 2), (1099511627775, 3), (4294967295, 4), (16777215, 5), (65535, 6), (255, 7), (0, 8)] ∧ v = .int .u64 x.1 ∧ n = .int .i64 x.2) ∧ Below w.heap.size w wr) (fun _ n _ => 8 - (intOf n).toNat)
  case atStart => exact ⟨⟨(18446744073709551615, 0), by simp, by kernel_rfl, rfl⟩, Below.refl _ _⟩
  case round =>
    obtain ⟨⟨x, hx, rfl, rfl⟩, hb⟩ := hrel
    have HB := Lib.hid hb
    clear hb
    simp only [List.mem_cons, List.not_mem_nil, or_false] at hx
    rcases hx with rfl | rfl | rfl | rfl | rfl | rfl | rfl | rfl | rfl
    · go_wp2
      go_roundw
      case rel => exact ⟨⟨(72057594037927935, 1), by simp, by kernel_rfl, rfl⟩, HB.out⟩
      case measure => simp [intOf]
    · go_wp2
      go_roundw
      case rel => exact ⟨⟨(281474976710655, 2), by simp, by kernel_rfl, rfl⟩, HB.out⟩
      case measure => simp [intOf]
    · go_wp2
      go_roundw
      case rel => exact ⟨⟨(1099511627775, 3), by simp, by kernel_rfl, rfl⟩, HB.out⟩
      case measure => simp [intOf]
    · go_wp2
      go_roundw
      case rel => exact ⟨⟨(4294967295, 4), by simp, by kernel_rfl, rfl⟩, HB.out⟩
      case measure => simp [intOf]
    · go_wp2
      go_roundw
      case rel => exact ⟨⟨(16777215, 5), by simp, by kernel_rfl, rfl⟩, HB.out⟩
      case measure => simp [intOf]
    · go_wp2
      go_roundw
      case rel => exact ⟨⟨(65535, 6), by simp, by kernel_rfl, rfl⟩, HB.out⟩
      case measure => simp [intOf]
    · go_wp2
      go_roundw
      case rel => exact ⟨⟨(255, 7), by simp, by kernel_rfl, rfl⟩, HB.out⟩
      case measure => simp [intOf]
    · go_wp2
      go_roundw
      case rel => exact ⟨⟨(0, 8), by simp, by kernel_rfl, rfl⟩, HB.out⟩
      case measure => simp [intOf]
    · go_wp2
      exact ⟨rfl, .int .i64 8, by kernel_rfl, _, rfl, rfl, HB.out⟩
set_option maxRecDepth 100000 in
theorem fits64_any (p : Option Addr) (c : Nat) (w : World) : Calls Tryd.prog 15 #[.slice p 8 c] w (Gives (· = .int .i64 0) w) := by
  go_enter Tryd.func15, Tryd.ntmps15
  go_wp2_with (go_at_call 23; refine (width64_any _).mono ?_; rintro e w1 ⟨_, rfl, rfl, hb1⟩; have HB := Lib.hid hb1; clear hb1)
  exact ⟨rfl, .int .i64 0, by kernel_rfl, _, rfl, rfl, HB.out⟩
set_option maxRecDepth 100000 in
theorem little64_any (p : Option Addr) (l : List Int) (c : Nat) (w : World) (hn : l.length = 8) (hb : Byt l) (h : BytesIn w p l) :
    Calls Tryd.prog 7 #[.slice p 8 c] w (Gives (· = .tuple #[.int .u64 (num l), .int .i64 0]) w) := by
  have H := Lib.hid h
  have HN := Lib.hid hn
  have HB := Lib.hid hb
  clear h hn hb
  go_enter Tryd.func7, Tryd.ntmps7
  go_wp2_with first
    | (go_at_call 15; refine (fits64_any _ _ _).mono ?_; rintro e w1 ⟨_, rfl, rfl, hb1⟩; have HB1 := Lib.hid hb1; clear hb1)
    | (go_at_call 16; refine (low64_any p l c _ HN.out HB.out (H.out.keep HB1.out)).mono ?_; rintro e w2 ⟨_, rfl, rfl, hb2⟩; have HB2 := Lib.hid (below_call hb2 HB1.out); clear hb2)
  exact ⟨rfl, .tuple #[.int .u64 (num l), .int .i64 0], by kernel_rfl, _, rfl, rfl, HB2.out⟩
end Go.Proofs.YtemkpihfenokmaaDoor
