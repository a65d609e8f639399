/- Numbers out of bytes: the reference's number, octet.low; a reader's take and U32. Condition: at most four bytes. -/
import Derived.Test.YtemkpihfenokmaaDoorCodB
namespace Go.Proofs.YtemkpihfenokmaaDoor
open Go.RowKit
theorem or32_0 (v x : Int) (hv : 0 ≤ v) (hv' : v < 1) (hx : 0 ≤ x) (hx' : x < 256) : bits .or .u32 v (x) = v + 1 * x := by
  obtain rfl : v = 0 := by omega
  go_bits2
theorem or32_1 (v x : Int) (hv : 0 ≤ v) (hv' : v < 256) (hx : 0 ≤ x) (hx' : x < 256) : bits .or .u32 v (x * 256) = v + 256 * x := by
  go_bits2
theorem or32_2 (v x : Int) (hv : 0 ≤ v) (hv' : v < 65536) (hx : 0 ≤ x) (hx' : x < 256) : bits .or .u32 v (x * 65536) = v + 65536 * x := by
  go_bits2
theorem or32_3 (v x : Int) (hv : 0 ≤ v) (hv' : v < 16777216) (hx : 0 ≤ x) (hx' : x < 256) : bits .or .u32 v (x * 16777216) = v + 16777216 * x := by
  go_bits2
theorem BytesIn.setCell {w : World} {g o k g2 : Nat} {l : List Int} (v : Value) (h : BytesIn w (some ⟨g, o, none⟩) l) (hne : g ≠ g2) : BytesIn (w.setCell ⟨g2, k, none⟩ v) (some ⟨g, o, none⟩) l := fun i hi => by
  obtain ⟨a, h1, h2, h3⟩ := h i hi
  injection h1 with h1
  subst h1
  refine ⟨_, rfl, by rw [World.size_setCell]; exact h2, ?_⟩
  rw [← h3]
  exact World.cell?_of_block (by rw [add_block]; exact heap_setCell_other w ⟨g2, k, none⟩ g v hne)
end Go.Proofs.YtemkpihfenokmaaDoor
