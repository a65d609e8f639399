/- A Talk that comes in by value, opened: its config, drop, bool and its two lists of bytes. -/
import Derived.Test.YtmochmpamgfboaaDoorOpenB
import Derived.ChangeArms
import Derived.OpenShut
namespace Go.Proofs.YtmochmpamgfboaaDoor
open Go.ChangeShapes Go.WideShapes Go.ChangeAt Go.RowKit
section
variable {H : Type} {enc : TypeId × Value → H} {P : Program} {W : World}
/-- Bytes that come in, at a field. -/
theorem trod_bytes {t e : TypeId} {fuel : Nat} {cs : List Value} {x : DataW H × List MemPlace} (ht : P.underlying t = some (.slice e)) (he : P.underlying e = some (.int .u8)) (hc : P.cellsOf e = 1) (hf : DataW.trod enc P W 0 (fun _ => true) true fuel t cs = some x) :
    ∃ (p : Option Addr) (n c : Nat) (l : List Int), cs = [.slice p n c] ∧ l.length = n ∧ Byt l ∧ BytesIn W p l ∧ n ≤ c ∧ (p = none → c = 0) ∧ (x.1 = .nil ∧ n = 0 ∨ ∃ el sp, x.1 = .slice el sp ∧ el.length = n) := by
  rcases open_ints ht he hc hf with ⟨h0, hx⟩ | ⟨a, len, cap, zs, h0, hb, hl, hm, hz, hx, hcell, hw⟩
  · exact ⟨none, 0, 0, [], h0, rfl, fun x hx => by simp at hx, fun i hi => by simp at hi, Nat.le_refl _, fun _ => rfl, .inl ⟨by rw [hx], rfl⟩⟩
  · simp only [if_true] at hz
    have hln : (zs.take len).length = len := by rw [List.length_take]; omega
    refine ⟨some a, len, cap, zs.take len, h0, hln, fun x hx' => ?_, fun i hi => ?_, hl, fun h => (by cases h), .inr ⟨_, _, by rw [hx], by simp [lits]; omega⟩⟩
    · have := bounds_u8 (hw x (List.mem_of_mem_take hx'))
      omega
    · have hi' : i < len := by omega
      have hcl := hcell i (by omega)
      refine ⟨a, rfl, ?_, ?_⟩
      · have := World.block_lt_of_cell? W _ hcl
        rwa [add_block] at this
      · rw [hcl]
        congr 2
        simp only [nth, List.getD_eq_getElem?_getD]
        rw [List.getElem?_take, if_pos hi']
end
section
variable {H : Type} {enc : TypeId × Value → H} {W : World} {base : Nat} {spare : Nat → Bool} {held : Bool}
theorem six_of {l : List Value} (h : l.length = 6) {f : Nat → Int} (hi : ∀ k, k < 6 → (l.drop k).take 1 = [.int .i64 (f k)]) : l = [.int .i64 (f 0), .int .i64 (f 1), .int .i64 (f 2), .int .i64 (f 3), .int .i64 (f 4), .int .i64 (f 5)] := by
  match l, h with
  | [x, y, z, u, v, t], _ =>
    have h0 := hi 0 (by omega); have h1 := hi 1 (by omega); have h2 := hi 2 (by omega); have h3 := hi 3 (by omega); have h4 := hi 4 (by omega); have h5 := hi 5 (by omega)
    simp at h0 h1 h2 h3 h4 h5
    simp [h0, h1, h2, h3, h4, h5]
theorem trod_conf {fuel : Nat} {cs : List Value} {x : DataW H × List MemPlace} (hf : DataW.trod enc Tryd.prog W base spare held fuel 23 cs = some x) : ∃ n0 n1 n2 n3 n4 n5 : Int, cs = [.int .i64 n0, .int .i64 n1, .int .i64 n2, .int .i64 n3, .int .i64 n4, .int .i64 n5] := by
  obtain ⟨xs, m, rfl, hx, hl, hxl, hi⟩ := DataW.trod_struct Tryd.underlying23 hf
  rw [show Tryd.prog.cellsOf 23 = 6 by kernel_rfl] at hl
  have hx6 : xs.length = 6 := hxl
  have c3 : Tryd.prog.cellsOf 3 = 1 := by kernel_rfl
  have each : ∀ k, ∃ n : Int, k < 6 → (cs.drop k).take 1 = [.int .i64 n] := by
    intro k
    by_cases hk : k < 6
    · have hk' : DataW.trod enc Tryd.prog W base spare held m 3 ((cs.drop k).take (Tryd.prog.cellsOf 3)) = xs[k]? := by
        rcases (show k = 0 ∨ k = 1 ∨ k = 2 ∨ k = 3 ∨ k = 4 ∨ k = 5 by omega) with rfl | rfl | rfl | rfl | rfl | rfl
        · exact hi 0 _ rfl
        · exact hi 1 _ rfl
        · exact hi 2 _ rfl
        · exact hi 3 _ rfl
        · exact hi 4 _ rfl
        · exact hi 5 _ rfl
      rw [c3, List.getElem?_eq_getElem (by omega)] at hk'
      obtain ⟨n, e, _, _⟩ := DataW.trod_int Tryd.underlying3 hk'
      exact ⟨n, fun _ => e⟩
    · exact ⟨0, fun h => absurd h hk⟩
  obtain ⟨f, hf'⟩ := Classical.axiomOfChoice each
  exact ⟨f 0, f 1, f 2, f 3, f 4, f 5, six_of hl hf'⟩
theorem trod_drop {fuel : Nat} {cs : List Value} {x : DataW H × List MemPlace} (hf : DataW.trod enc Tryd.prog W base spare held fuel 25 cs = some x) : ∃ d : List Int, d.length = 16 ∧ cs = d.map (Value.int .u8) := by
  obtain ⟨xs, m, rfl, hx, hl, hxl, hi⟩ := DataW.trod_array Tryd.underlying25 hf
  rw [show Tryd.prog.cellsOf 25 = 16 by kernel_rfl] at hl
  have c3 : Tryd.prog.cellsOf 5 = 1 := by kernel_rfl
  have each : ∀ k, ∃ n : Int, k < 16 → cs[k]? = some (.int .u8 n) := by
    intro k
    by_cases hk : k < 16
    · have hk' := hi k hk
      rw [c3, List.getElem?_eq_getElem (by omega), Nat.mul_one] at hk'
      obtain ⟨n, e, _, _⟩ := DataW.trod_int Tryd.underlying5 hk'
      refine ⟨n, fun _ => ?_⟩
      have h1 : ((cs.drop k).take 1)[0]? = some (.int .u8 n) := by rw [e]; rfl
      rw [List.getElem?_take, if_pos (by omega), List.getElem?_drop] at h1
      exact h1
    · exact ⟨0, fun h => absurd h hk⟩
  obtain ⟨f, hf'⟩ := Classical.axiomOfChoice each
  refine ⟨(List.range 16).map f, by simp, ?_⟩
  apply List.ext_getElem?
  intro k
  by_cases hk : k < 16
  · rw [hf' k hk]
    simp [hk]
  · rw [List.getElem?_eq_none (by omega), List.getElem?_eq_none (by simp; omega)]
end
section
variable {H : Type} {enc : TypeId × Value → H} {W : World}
/-- A Talk, opened. -/
theorem open_talk {v : Value} {d : DataW H} {ps : List MemPlace} (h : DataW.Trod enc Tryd.prog W 0 (fun _ => true) true 28 v d ps) :
    ∃ (n0 n1 n2 n3 n4 n5 : Int) (dl : List Int) (y : Bool) (pm qb : Option Addr) (nm cm nb cb : Nat) (m b : List Int) (x0 x1 x2 x3 x4 : DataW H),
      v = .agg (List.toArray (α := Value) ([.int .i64 n0, .int .i64 n1, .int .i64 n2, .int .i64 n3, .int .i64 n4, .int .i64 n5] ++ dl.map (Value.int .u8) ++ [.bool y, .slice pm nm cm, .slice qb nb cb])) ∧ dl.length = 16 ∧ d = .agg [x0, x1, x2, x3, x4] ∧
      (m.length = nm ∧ Byt m ∧ BytesIn W pm m ∧ nm ≤ cm ∧ (pm = none → cm = 0) ∧ (x3 = .nil ∧ nm = 0 ∨ ∃ el sp, x3 = .slice el sp ∧ el.length = nm)) ∧
      (b.length = nb ∧ Byt b ∧ BytesIn W qb b ∧ nb ≤ cb ∧ (qb = none → cb = 0) ∧ (x4 = .nil ∧ nb = 0 ∨ ∃ el sp, x4 = .slice el sp ∧ el.length = nb)) := by
  obtain ⟨fuel, hf⟩ := h
  obtain ⟨xs, k, rfl, hx, hl, hxl, hi⟩ := DataW.trod_struct Tryd.underlying28 hf
  rw [show Tryd.prog.cellsOf 28 = 25 by kernel_rfl] at hl
  have hx5 : xs.length = 5 := hxl
  obtain ⟨z0, z1, z2, z3, z4, rfl⟩ : ∃ a b c e f, xs = [a, b, c, e, f] := by
    match xs, hx5 with
    | [a, b, c, e, f], _ => exact ⟨a, b, c, e, f, rfl⟩
  have h0 := hi 0 _ rfl
  have h1 := hi 1 _ rfl
  have h2 := hi 2 _ rfl
  have h3 := hi 3 _ rfl
  have h4 := hi 4 _ rfl
  replace h0 : DataW.trod enc Tryd.prog W 0 (fun _ => true) true k 23 ((v.cells.toList.drop 0).take (Tryd.prog.cellsOf 23)) = some z0 := h0
  replace h1 : DataW.trod enc Tryd.prog W 0 (fun _ => true) true k 25 ((v.cells.toList.drop 6).take (Tryd.prog.cellsOf 25)) = some z1 := h1
  replace h2 : DataW.trod enc Tryd.prog W 0 (fun _ => true) true k 4 ((v.cells.toList.drop 22).take (Tryd.prog.cellsOf 4)) = some z2 := h2
  replace h3 : DataW.trod enc Tryd.prog W 0 (fun _ => true) true k 26 ((v.cells.toList.drop 23).take (Tryd.prog.cellsOf 26)) = some z3 := h3
  replace h4 : DataW.trod enc Tryd.prog W 0 (fun _ => true) true k 26 ((v.cells.toList.drop 24).take (Tryd.prog.cellsOf 26)) = some z4 := h4
  rw [show Tryd.prog.cellsOf 23 = 6 by kernel_rfl] at h0
  rw [show Tryd.prog.cellsOf 25 = 16 by kernel_rfl] at h1
  rw [show Tryd.prog.cellsOf 4 = 1 by kernel_rfl] at h2
  rw [show Tryd.prog.cellsOf 26 = 1 by kernel_rfl] at h3 h4
  obtain ⟨n0, n1, n2, n3, n4, n5, e0⟩ := trod_conf h0
  obtain ⟨dl, hd, e1⟩ := trod_drop h1
  obtain ⟨y, e2, _⟩ := DataW.trod_bool Tryd.underlying4 h2
  obtain ⟨pm, nm, cm, m, e3, hm⟩ := trod_bytes Tryd.underlying26 Tryd.underlying5 (by kernel_rfl) h3
  obtain ⟨qb, nb, cb, b, e4, hb⟩ := trod_bytes Tryd.underlying26 Tryd.underlying5 (by kernel_rfl) h4
  refine ⟨n0, n1, n2, n3, n4, n5, dl, y, pm, qb, nm, cm, nb, cb, m, b, z0.1, z1.1, z2.1, z3.1, z4.1, ?_, hd, ?_, hm, hb⟩
  · have hw : v.cells.toList = [.int .i64 n0, .int .i64 n1, .int .i64 n2, .int .i64 n3, .int .i64 n4, .int .i64 n5] ++ dl.map (Value.int .u8) ++ [.bool y, .slice pm nm cm, .slice qb nb cb] := by
      rw [← e0, ← e1]
      generalize v.cells.toList = L at *
      have a1 : L.drop 22 = [.bool y, .slice pm nm cm, .slice qb nb cb] := by
        have b1 : L.drop 22 = (L.drop 22).take 1 ++ ((L.drop 23).take 1 ++ (L.drop 24).take 1) := by
          have c1 : (L.drop 24).take 1 = L.drop 24 := List.take_of_length_le (by rw [List.length_drop]; omega)
          rw [c1]
          have c2 : (L.drop 23).take 1 ++ L.drop 24 = L.drop 23 := by
            have := List.take_append_drop 1 (L.drop 23)
            rwa [List.drop_drop] at this
          rw [c2]
          have := List.take_append_drop 1 (L.drop 22)
          rw [List.drop_drop] at this
          exact this.symm
        rw [b1, e2, e3, e4]
        rfl
      rw [← a1, List.drop_zero]
      have b2 : (L.drop 6).take 16 ++ L.drop 22 = L.drop 6 := by
        have := List.take_append_drop 16 (L.drop 6)
        rwa [List.drop_drop] at this
      rw [List.append_assoc, b2]
      exact (List.take_append_drop 6 L).symm
    cases v with
    | agg cs =>
      have h7 : cs.toList = _ := hw
      rw [← h7]
    | _ => exfalso; simp [Value.cells] at hl
  · have : d = (.agg ([z0, z1, z2, z3, z4].map (·.1)) : DataW H) := by
      have := congrArg Prod.fst hx
      exact this
    rw [this]
    rfl
end
end Go.Proofs.YtmochmpamgfboaaDoor
