/- Slices of bytes that lie in memory behind a slice of them. Said over any program. -/
import Derived.Test.YtemkpihfenokmaaDoorBuf
namespace Go.Proofs.YtemkpihfenokmaaDoor
open Go.RowKit
/-- Slices of bytes lie in memory behind a slice of them: each with its address, its capacity, its bytes. -/
def RowsIn (w : World) (p : Option Addr) (vs : List (Option Addr × Nat × List Int)) : Prop :=
  (∀ (k : Nat) r, vs[k]? = some r → ∃ a, p = some a ∧ a.block < w.heap.size ∧ w.cell? (a.add k) = some (.slice r.1 r.2.2.length r.2.1)) ∧ ∀ r ∈ vs, BytesIn w r.1 r.2.2 ∧ (r.1 = none → r.2.1 = 0)
theorem RowsIn.under {w w' : World} {p : Option Addr} {vs : List (Option Addr × Nat × List Int)} {B : Nat} (h : RowsIn w p vs) (hb : Below B w w') (hB : w.heap.size ≤ B) : RowsIn w' p vs :=
  ⟨fun k r hr => by
    obtain ⟨a, h1, h2, h3⟩ := h.1 k r hr
    refine ⟨a, h1, Nat.lt_of_lt_of_le h2 hb.size, ?_⟩
    rw [← h3]
    exact World.cell?_of_block (by rw [add_block]; exact hb.block _ (Nat.lt_of_lt_of_le h2 hB)), fun r hr => ⟨(h.2 r hr).1.under hb hB, (h.2 r hr).2⟩⟩
end Go.Proofs.YtemkpihfenokmaaDoor
