/- Numbers out of bytes: the reference's number, octet.low; a reader's take and U32. Condition: at most four bytes. -/
import Derived.Test.YtmochmpamgfboaaDoorCodB
namespace Go.Proofs.YtmochmpamgfboaaDoor
open Go.RowKit
set_option maxRecDepth 100000 in
theorem number_any (p : Option Addr) (l : List Int) (n c : Nat) (w : World) (hn : l.length = n) (hb : Byt l) (h4 : n ≤ 4) (h : BytesIn w p l) :
    Calls Tryd.prog 57 #[.slice p n c] w (Gives (· = .int .i64 (num l)) w) := by
  have H := Lib.hid h
  have HN := Lib.hid hn
  have HB := Lib.hid hb
  clear h hn hb
  go_enter Tryd.func57, Tryd.ntmps57
  go_wp2
  go_loopw [3, 4] (fun v i wr => ∃ k : Nat, k ≤ n ∧ i = .int .i64 ((k : Int) - 1) ∧ v = .int .i64 (num (l.drop k)) ∧ Below w.heap.size w wr) (fun _ i _ => (intOf i + 1).toNat)
  case atStart => exact ⟨n, Nat.le_refl _, rfl, by rw [List.drop_of_length_le (Nat.le_of_eq HN.out)]; rfl, Below.refl _ _⟩
  case round =>
    obtain ⟨k, hk, rfl, rfl, hbel⟩ := hrel
    have HBL := Lib.hid hbel
    clear hbel
    rcases Nat.eq_zero_or_pos k with h0 | h0
    · subst h0
      go_wp2
      exact ⟨rfl, .int .i64 (num l), by kernel_rfl, _, rfl, rfl, HBL.out⟩
    · obtain ⟨j, rfl⟩ : ∃ j, k = j + 1 := ⟨k - 1, by omega⟩
      have e : ((j + 1 : Nat) : Int) - 1 = (j : Int) := by omega
      rw [e]
      obtain ⟨a, rfl, _, x1⟩ := H.out.under HBL.out (Nat.le_refl _) j (by rw [HN.out]; omega)
      have hd := num_drop l j (by rw [HN.out]; omega)
      have hbd := num_drop_bound HB.out (j + 1) 4 (by rw [HN.out]; omega)
      have hx := HB.out.nth j
      generalize num (l.drop (j + 1)) = acc at *
      generalize nth l j = x at *
      have HD := Lib.hid hd
      clear hd e
      have hbd2 : 0 ≤ acc ∧ acc < 4294967296 := ⟨hbd.1, by simpa using hbd.2⟩
      clear hbd
      go_wp2
      go_roundw
      case rel => exact ⟨j, by omega, by go_num, by rw [HD.out]; congr 1; omega, HBL.out⟩
      case measure => simp [intOf]

theorem or32_0 (v x : Int) (hv : 0 ≤ v) (hv' : v < 1) (hx : 0 ≤ x) (hx' : x < 256) : bits .or .u32 v (x) = v + 1 * x := by
  obtain rfl : v = 0 := by omega
  go_bits2
theorem or32_1 (v x : Int) (hv : 0 ≤ v) (hv' : v < 256) (hx : 0 ≤ x) (hx' : x < 256) : bits .or .u32 v (x * 256) = v + 256 * x := by
  go_bits2
theorem or32_2 (v x : Int) (hv : 0 ≤ v) (hv' : v < 65536) (hx : 0 ≤ x) (hx' : x < 256) : bits .or .u32 v (x * 65536) = v + 65536 * x := by
  go_bits2
theorem or32_3 (v x : Int) (hv : 0 ≤ v) (hv' : v < 16777216) (hx : 0 ≤ x) (hx' : x < 256) : bits .or .u32 v (x * 16777216) = v + 16777216 * x := by
  go_bits2
set_option maxRecDepth 100000 in
theorem take_any (g1 g2 o m c : Nat) (t : TypeId) (w : World) (h : w.heap[g2]? = some (.cells #[.slice (some ⟨g1, o, none⟩) m c, .int .i64 0] t (0, 0))) (h1 : 4 ≤ m) (h2 : m ≤ c) (h3 : c ≤ 9223372036854775807) :
    Calls Tryd.prog 70 #[.pointer (some ⟨g2, 0, none⟩), .int .i64 4] w fun e w' => e = .returned (.slice (some ⟨g1, o, none⟩) 4 4) ∧ w' = w.setCell ⟨g2, 0, none⟩ (.slice (some (if c = 4 then ⟨g1, o, none⟩ else ⟨g1, o + 4, none⟩)) (m - 4) (c - 4)) := by
  have c0 := row_cell h 0
  have c1 := row_cell h 1
  have f0 := row_free h 0
  simp only [List.getElem?_toArray, List.getElem?_cons_zero, List.getElem?_cons_succ] at c0 c1
  clear h
  go_enter Tryd.func70, Tryd.ntmps70
  by_cases hc : c = 4
  · subst hc
    obtain rfl : m = 4 := by omega
    go_wp2
    exact ⟨rfl, .slice (some ⟨g1, o, none⟩) 4 4, by kernel_rfl, rfl, rfl⟩
  · go_wp2
    exact ⟨rfl, .slice (some ⟨g1, o, none⟩) 4 4, by kernel_rfl, rfl, rfl⟩
set_option maxRecDepth 100000 in
theorem low_any (p : Option Addr) (l : List Int) (c : Nat) (w : World) (hn : l.length = 4) (hb : Byt l) (h : BytesIn w p l) :
    Calls Tryd.prog 69 #[.slice p 4 c] w (Gives (· = .int .u32 (num l)) w) := by
  have H := Lib.hid h
  have HN := Lib.hid hn
  have HB := Lib.hid hb
  clear h hn hb
  go_enter Tryd.func69, Tryd.ntmps69
  go_wp2
  go_loopw [3, 8] (fun v i wr => ∃ k : Nat, k ≤ 4 ∧ i = .int .i64 k ∧ v = .int .u32 (num (l.take k)) ∧ Below w.heap.size w wr) (fun _ i _ => 4 - (intOf i).toNat)
  case atStart => exact ⟨0, by omega, rfl, rfl, Below.refl _ _⟩
  case round =>
    obtain ⟨k, hk, rfl, rfl, hbel⟩ := hrel
    have HBL := Lib.hid hbel
    clear hbel
    by_cases hlt : k < 4
    · obtain ⟨a, rfl, _, x1⟩ := H.out.under HBL.out (Nat.le_refl _) k (by rw [HN.out]; exact hlt)
      have hx := HB.out.nth k
      have hs : num (l.take (k + 1)) = num (l.take k) + 256 ^ k * nth l k := by
        rw [take_nth l k (by rw [HN.out]; exact hlt), num_append, List.length_take, HN.out, Nat.min_eq_left hk]
        simp [num]
      have hv := num_bound _ (HB.out.take k)
      rw [List.length_take, HN.out, Nat.min_eq_left hk] at hv
      generalize num (l.take k) = v at *
      generalize nth l k = x at *
      rcases (show k = 0 ∨ k = 1 ∨ k = 2 ∨ k = 3 by omega) with rfl | rfl | rfl | rfl
      · have HS := Lib.hid hs
        clear hs
        change wr.cell? a = _ at x1
        go_wp2
        go_roundw
        case rel => exact ⟨1, by omega, by go_num, by rw [HS.out]; exact congrArg _ (or32_0 v x hv.1 hv.2 hx.1 hx.2), HBL.out⟩
        case measure => simp [intOf]
      · have HS := Lib.hid hs
        clear hs
        change wr.cell? ⟨a.block, a.off + 1, none⟩ = _ at x1
        go_wp2
        go_roundw
        case rel => exact ⟨2, by omega, by go_num, by rw [HS.out]; exact congrArg _ (or32_1 v x hv.1 hv.2 hx.1 hx.2), HBL.out⟩
        case measure => simp [intOf]
      · have HS := Lib.hid hs
        clear hs
        change wr.cell? ⟨a.block, a.off + 2, none⟩ = _ at x1
        go_wp2
        go_roundw
        case rel => exact ⟨3, by omega, by go_num, by rw [HS.out]; exact congrArg _ (or32_2 v x hv.1 hv.2 hx.1 hx.2), HBL.out⟩
        case measure => simp [intOf]
      · have HS := Lib.hid hs
        clear hs
        change wr.cell? ⟨a.block, a.off + 3, none⟩ = _ at x1
        go_wp2
        go_roundw
        case rel => exact ⟨4, by omega, by go_num, by rw [HS.out]; exact congrArg _ (or32_3 v x hv.1 hv.2 hx.1 hx.2), HBL.out⟩
        case measure => simp [intOf]
    · obtain rfl : k = 4 := by omega
      have e : l.take 4 = l := List.take_of_length_le (Nat.le_of_eq HN.out)
      rw [e]
      go_wp2
      exact ⟨rfl, .int .u32 (num l), by kernel_rfl, _, rfl, rfl, HBL.out⟩
theorem BytesIn.setCell {w : World} {g o k g2 : Nat} {l : List Int} (v : Value) (h : BytesIn w (some ⟨g, o, none⟩) l) (hne : g ≠ g2) : BytesIn (w.setCell ⟨g2, k, none⟩ v) (some ⟨g, o, none⟩) l := fun i hi => by
  obtain ⟨a, h1, h2, h3⟩ := h i hi
  injection h1 with h1
  subst h1
  refine ⟨_, rfl, by rw [World.size_setCell]; exact h2, ?_⟩
  rw [← h3]
  exact World.cell?_of_block (by rw [add_block]; exact heap_setCell_other w ⟨g2, k, none⟩ g v hne)
set_option maxRecDepth 100000 in
theorem u32_any (g1 g2 o m c : Nat) (t : TypeId) (l : List Int) (w : World) (h : w.heap[g2]? = some (.cells #[.slice (some ⟨g1, o, none⟩) m c, .int .i64 0] t (0, 0))) (h1 : 4 ≤ m) (h2 : m ≤ c) (h3 : c ≤ 9223372036854775807)
    (hn : l.length = 4) (hb : Byt l) (hl : BytesIn w (some ⟨g1, o, none⟩) l) (hne : g1 ≠ g2) :
    Calls Tryd.prog 54 #[.pointer (some ⟨g2, 0, none⟩)] w fun e w' => e = .returned (.int .u32 (num l)) ∧ Below w.heap.size (w.setCell ⟨g2, 0, none⟩ (.slice (some (if c = 4 then ⟨g1, o, none⟩ else ⟨g1, o + 4, none⟩)) (m - 4) (c - 4))) w' := by
  have HT := Lib.hid (take_any g1 g2 o m c t w h h1 h2 h3)
  have hl2 := BytesIn.setCell (g2 := g2) (k := 0) (.slice (some (if c = 4 then ⟨g1, o, none⟩ else ⟨g1, o + 4, none⟩)) (m - 4) (c - 4)) hl hne
  generalize hw1 : w.setCell ⟨g2, 0, none⟩ (.slice (some (if c = 4 then ⟨g1, o, none⟩ else ⟨g1, o + 4, none⟩)) (m - 4) (c - 4)) = w1 at *
  have hsz : w1.heap.size = w.heap.size := by rw [← hw1, World.size_setCell]
  have HLo := Lib.hid (low_any _ l 4 w1 hn hb hl2)
  have HSZ := Lib.hid hsz
  clear h h1 h2 h3 hn hb hl hl2 hw1 hsz
  go_enter Tryd.func54, Tryd.ntmps54
  go_wp2_with ((with_reducible refine guard_list ?_); first | (refine held_call _ rfl ?_))
  refine wpList_step fun K hK => if_always rfl ?_
  refine wp_fn2 _ _ _ _ _ _ rfl rfl rfl (by intro args w; kernel_rfl) (HT.out.mono fun e w2 ⟨he, hw⟩ => ⟨_, he, hK _ _ ?_⟩)
  subst hw
  refine wpList_step fun K hK => if_always rfl ?_
  refine wp_fn1 _ _ _ _ rfl rfl (by intro args w; kernel_rfl) (HLo.out.mono fun e w3 ⟨r, he, hr, hbel⟩ => ⟨_, he, hK _ _ ?_⟩)
  subst hr
  have HBL := Lib.hid (HSZ.out ▸ hbel)
  clear hbel
  go_wp2
  exact ⟨rfl, .int .u32 (num l), by kernel_rfl, rfl, HBL.out⟩
end Go.Proofs.YtmochmpamgfboaaDoor
