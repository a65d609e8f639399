/- A slice of bytes that comes in, opened. Said over any program. -/
import Derived.Test.YtmochmpamgfboaaDoorOpen
import Derived.Test.YtmochmpamgfboaaDoorByt
import Derived.ChangeSlices
import Derived.SizedLaws
namespace Go.Proofs.YtmochmpamgfboaaDoor
open Go.ChangeShapes Go.WideShapes Go.ChangeAt Go.RowKit

section
variable {H : Type} {enc : TypeId × Value → H} {P : Program} {W : World}
theorem open_bytes {t e : TypeId} {p : Option Addr} {n c : Nat} {d : DataW H} {ps : List MemPlace} (ht : P.underlying t = some (.slice e)) (he : P.underlying e = some (.int .u8)) (hc : P.cellsOf e = 1) (h : DataW.Trod enc P W 0 (fun _ => true) true t (.slice p n c) d ps) :
    ∃ l : List Int, l.length = n ∧ Byt l ∧ BytesIn W p l ∧ n ≤ c ∧ (d = .nil ∧ n = 0 ∨ ∃ el sp, d = .slice el sp ∧ el.length = n) := by
  obtain ⟨fuel, hf⟩ := h
  rcases open_ints ht he hc hf with ⟨h0, hx⟩ | ⟨a, len, cap, zs, h0, hb, hl, hm, hz, hx, hcell, hw⟩
  · have e1 : Value.slice p n c = .slice none 0 0 := by simpa [Value.cells] using h0
    injection e1 with e1 e2 e3
    subst e1; subst e2; subst e3
    simp only [Prod.mk.injEq] at hx
    exact ⟨[], rfl, fun x hx => by simp at hx, fun i hi => by simp at hi, Nat.le_refl _, .inl ⟨hx.1, rfl⟩⟩
  · have e1 : Value.slice p n c = .slice (some a) len cap := by simpa [Value.cells] using h0
    injection e1 with e1 e2 e3
    subst e1; subst e2; subst e3
    simp only [Prod.mk.injEq] at hx
    simp only [if_true] at hz
    have hln : (zs.take n).length = n := by rw [List.length_take]; omega
    refine ⟨zs.take n, hln, fun x hx' => ?_, fun i hi => ?_, hl, .inr ⟨_, _, hx.1, by simp [lits]; omega⟩⟩
    · have := bounds_u8 (hw x (List.mem_of_mem_take hx'))
      omega
    · have hi' : i < n := by omega
      have hcl := hcell i (by omega)
      refine ⟨a, rfl, ?_, ?_⟩
      · have := World.block_lt_of_cell? W _ hcl
        rwa [add_block] at this
      · rw [hcl]
        congr 2
        simp only [nth, List.getD_eq_getElem?_getD]
        rw [List.getElem?_take, if_pos hi']
/-- How long it can be at the most. -/
theorem sized_bytes {ts : List TypeId} {ds : List (DataW H)} {t e : TypeId} {j n : Nat} {d : DataW H} (h : (DataW.weightsEach P ts ds).all (· ≤ reachBytes) = true) (ht : ts[j]? = some t) (hd : ds[j]? = some d) (hu : P.underlying t = some (.slice e)) (hb : P.bytesOf e = 1)
    (hs : d = .nil ∧ n = 0 ∨ ∃ el sp, d = .slice el sp ∧ el.length = n) : n ≤ 140737488355328 := by
  rcases hs with ⟨_, rfl⟩ | ⟨el, sp, rfl, rfl⟩
  · omega
  · have h1 := sized_slice h ht hd hu
    rw [hb, Nat.mul_one] at h1
    have h2 := reachBytes_lt
    omega
end
end Go.Proofs.YtmochmpamgfboaaDoor
