/- A struct of two rows of 32 bytes and two words that comes in by value, opened. No condition. -/
import Derived.Test.YtciakfhjjnmeeaaOpen
import Derived.ChangeArms
namespace Go.Proofs.Ytciakfhjjnmeeaa
open Go.ChangeShapes Go.WideShapes Go.ChangeAt Go.RowKit

/-- The cells of an array of whole numbers. -/
theorem open_cells {H : Type} {enc : TypeId × Value → H} {P : Program} {W : World} {base : Nat} {spare : Nat → Bool} {held : Bool} {t e : TypeId} {n fuel : Nat} {k : IntKind} {cs : List Value} {x : DataW H × List MemPlace}
    (ht : P.underlying t = some (.array n e)) (he : P.underlying e = some (.int k)) (hc : P.cellsOf t = n) (hce : P.cellsOf e = 1) (h : DataW.trod enc P W base spare held fuel t cs = some x) :
    ∃ L : List Int, cs = L.map (Value.int k) ∧ L.length = n ∧ ∀ x ∈ L, (Lit.int k x).wf = true := by
  obtain ⟨xs, m, rfl, hx, hl, hxl, hi⟩ := DataW.trod_array ht h
  rw [hc] at hl
  obtain ⟨L, hL, hLl, hw⟩ := ints_of (k := k) cs (fun c hcm => by
    obtain ⟨i, hi', rfl⟩ := List.getElem_of_mem hcm
    have h1 := hi i (by omega)
    rw [hce, Nat.mul_one] at h1
    have h2 : (cs.drop i).take 1 = [cs[i]] := by rw [List.drop_eq_getElem_cons hi']; rfl
    rw [h2, List.getElem?_eq_getElem (by omega)] at h1
    obtain ⟨q, hq, _, hqw⟩ := DataW.trod_int he h1
    exact ⟨q, by simpa using hq, hqw⟩)
  exact ⟨L, hL, hLl.trans hl, hw⟩

theorem four_parts (l : List Value) (h : l.length = 66) : l = ((l.drop 0).take 32) ++ ((l.drop 32).take 32) ++ ((l.drop 64).take 1) ++ ((l.drop 65).take 1) := by
  have e1 := (List.take_append_drop 32 l).symm
  have e2 := (List.take_append_drop 32 (l.drop 32)).symm
  have e3 := (List.take_append_drop 1 (l.drop 64)).symm
  have e4 : (l.drop 65).take 1 = l.drop 65 := List.take_of_length_le (by simp; omega)
  rw [List.drop_drop] at e2 e3
  rw [e4, List.drop_zero]
  rw [List.append_assoc, List.append_assoc]
  conv => lhs; rw [e1, e2, e3]

theorem open_powers {H : Type} {enc : TypeId × Value → H} {W : World} {base : Nat} {spare : Nat → Bool} {held : Bool} {v : Value} {d : DataW H} {ps : List MemPlace}
    (h : DataW.Trod enc Try.prog W base spare held 53 v d ps) :
    ∃ (La Lb : List Int) (m n : Int), v = .agg ((La.map (Value.int .u8) ++ Lb.map (Value.int .u8) ++ [Value.int .u32 m, Value.int .u32 n]).toArray) ∧ La.length = 32 ∧ (∀ x ∈ La, (Lit.int .u8 x).wf = true) ∧ Lb.length = 32 ∧ (∀ x ∈ Lb, (Lit.int .u8 x).wf = true) ∧ (Lit.int .u32 m).wf = true ∧ (Lit.int .u32 n).wf = true := by
  obtain ⟨fuel, hf⟩ := h
  obtain ⟨xs, m, rfl, hx, hl, hxl, hi⟩ := DataW.trod_struct Try.underlying53 hf
  rw [show Try.prog.cellsOf 53 = 66 by kernel_rfl] at hl
  have hx4 : xs.length = 4 := hxl
  have c22 : Try.prog.cellsOf 22 = 32 := by kernel_rfl
  have c50 : Try.prog.cellsOf 50 = 1 := by kernel_rfl
  have c5 : Try.prog.cellsOf 5 = 1 := by kernel_rfl
  have h0 : DataW.trod enc Try.prog W base spare held m 22 ((v.cells.toList.drop 0).take (Try.prog.cellsOf 22)) = xs[0]? := hi 0 _ rfl
  have h1 : DataW.trod enc Try.prog W base spare held m 22 ((v.cells.toList.drop 32).take (Try.prog.cellsOf 22)) = xs[1]? := hi 1 _ rfl
  have h2 : DataW.trod enc Try.prog W base spare held m 50 ((v.cells.toList.drop 64).take (Try.prog.cellsOf 50)) = xs[2]? := hi 2 _ rfl
  have h3 : DataW.trod enc Try.prog W base spare held m 50 ((v.cells.toList.drop 65).take (Try.prog.cellsOf 50)) = xs[3]? := hi 3 _ rfl
  rw [c22, List.getElem?_eq_getElem (by omega)] at h0 h1
  rw [c50, List.getElem?_eq_getElem (by omega)] at h2 h3
  obtain ⟨La, e0, l0, w0⟩ := open_cells Try.underlying22 Try.underlying5 c22 c5 h0
  obtain ⟨Lb, e1, l1, w1⟩ := open_cells Try.underlying22 Try.underlying5 c22 c5 h1
  obtain ⟨a, e2, _, w2⟩ := DataW.trod_int Try.underlying50 h2
  obtain ⟨b, e3, _, w3⟩ := DataW.trod_int Try.underlying50 h3
  have h66 := four_parts v.cells.toList hl
  rw [e0, e1, e2, e3] at h66
  refine ⟨La, Lb, a, b, ?_, l0, w0, l1, w1, w2, w3⟩
  cases v with
  | agg cs =>
    have h4 : cs.toList = La.map (Value.int .u8) ++ Lb.map (Value.int .u8) ++ [Value.int .u32 a, Value.int .u32 b] := by
      refine Eq.trans (show cs.toList = _ from h66) ?_
      rw [List.append_assoc (_ ++ _)]
      rfl
    have h5 : cs = (La.map (Value.int .u8) ++ Lb.map (Value.int .u8) ++ [Value.int .u32 a, Value.int .u32 b]).toArray := by
      rw [← h4]
    exact congrArg Value.agg h5
  | _ => exfalso; simp [Value.cells] at hl
end Go.Proofs.Ytciakfhjjnmeeaa
