/- codec.laid where write answers no error. Condition: write's. -/
import Derived.Test.YtmochmpamgfboaaDoorWr
namespace Go.Proofs.YtmochmpamgfboaaDoor
open Go.RowKit
set_option maxRecDepth 100000 in
theorem as_nil (g : Value) (w : World) : Calls Tryd.prog 68 #[.nilIface, g] w (fun e w' => e = .returned (.bool false) ∧ w' = w) := by
  go_enter Tryd.func68, Tryd.ntmps68
  go_wp2
  exact ⟨rfl, .bool false, by kernel_rfl, rfl, rfl⟩
/-- What laid answers, no error. -/
def LaidV (w : World) (l : List Int) (e : Ending) (w' : World) : Prop := Below w.heap.size w w' ∧ ∃ v, e = .returned (.tuple #[v, .int .i64 0]) ∧ Bts w' w.heap.size v l
set_option maxHeartbeats 4000000 in
set_option maxRecDepth 100000 in
theorem laid_any (p : Option Addr) (n c : Nat) (vs : List Value) (os : List (Option (List Int))) (l : List Int) (w : World) (hl : layAll os = some l) (hn : vs.length = n) (ho : os.length = n) (h8 : n ≤ 8)
    (hv : ∀ (k : Nat) v, vs[k]? = some v → ∃ a, p = some a ∧ a.block < w.heap.size ∧ w.cell? (a.add k) = some v) (hp : ∀ (k : Nat) v o, vs[k]? = some v → os[k]? = some o → PartIn w v o) :
    Calls Tryd.prog 47 #[.slice p n c] w (LaidV w l) := by
  have HW := Lib.hid (write_any p n c vs os w hn ho h8 hv hp)
  rw [hl] at HW
  clear hl hn ho hv hp
  go_enter Tryd.func47, Tryd.ntmps47
  go_wp2_with first | (go_at_call 67; refine HW.out.mono ?_; rintro e w1 ⟨hb, v, rfl, hv⟩) | (go_at_call 68; refine (as_nil _ _).mono ?_; rintro e w2 ⟨rfl, rfl⟩)
  exact ⟨rfl, .tuple #[v, .int .i64 0], by kernel_rfl, hb.alloc hb.size _, v, rfl, hv.alloc _⟩
end Go.Proofs.YtmochmpamgfboaaDoor
