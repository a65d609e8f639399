/- The law CodecOnce of package trystlaw20: for every config, dead drop, bool, message and list of bytes the call returns true, and each argument reads afterwards as it read before; and its card: the one listed variable (errors.errorType) tied to the program's text. No condition. -/
import Derived.Test.YtmochmpamgfboabDoorRows
import Derived.Test.YtmochmpamgfboabDoorElem2
import Derived.WalkKit
import Derived.ProofKit
import Derived.OpenShut
import Derived.ShutString
import Derived.ChangeOld
import Derived.Below
import Derived.Test.YtmochmpamgfboabDoorByt
import Derived.ChangeSlices
import Derived.SizedLaws
import Derived.ChangeArms
import Derived.Test.YtmochmpamgfboabDoorOncex
import Derived.Test.YtmochmpamgfboabDoorCards
import Derived.Test.YtmochmpamgfboabDoorTie
import Derived.ChangeSame
import Derived.ChangeVars
import Derived.JoinedOf
import Derived.RowKit
import Derived.RowKitTokens
import Derived.LaidLaws
import Derived.LaidHandle
import Derived.Stop.Joined
import Derived.SevenTiedAt
namespace Go.Proofs.YtmochmpamgfboabDoor
open Go.ChangeShapes Go.WideShapes Go.ChangeAt Go.RowKit

theorem own : ownKnob Tryd.prog.godebug = none := by kernel_rfl
theorem laidOut : laidOutB Tryd.prog = true := by kernel_rfl

theorem ints_of {k : IntKind} : ∀ (cs : List Value), (∀ c ∈ cs, ∃ n, c = .int k n ∧ (Lit.int k n).wf = true) → ∃ L : List Int, cs = L.map (Value.int k) ∧ L.length = cs.length ∧ ∀ n ∈ L, (Lit.int k n).wf = true
  | [], _ => ⟨[], rfl, rfl, fun n h => by cases h⟩
  | c :: r, h => by
    obtain ⟨n, rfl, hn⟩ := h c (by simp)
    obtain ⟨L, rfl, hl, hw⟩ := ints_of r (fun x hx => h x (by simp [hx]))
    refine ⟨n :: L, rfl, by simp, fun m hm => ?_⟩
    rw [List.mem_cons] at hm
    rcases hm with rfl | hm
    · exact hn
    · exact hw m hm

theorem open_row {H : Type} {enc : TypeId × Value → H} {P : Program} {W : World} {base : Nat} {spare : Nat → Bool} {held : Bool} {t e : TypeId} {n : Nat} {k : IntKind} {v : Value} {d : DataW H} {ps : List MemPlace}
    (ht : P.underlying t = some (.array n e)) (he : P.underlying e = some (.int k)) (hc : P.cellsOf t = n) (hce : P.cellsOf e = 1) (hn : 2 ≤ n) (h : DataW.Trod enc P W base spare held t v d ps) :
    ∃ L : List Int, v = .agg (valsK k L) ∧ L.length = n ∧ ∀ x ∈ L, (Lit.int k x).wf = true := by
  obtain ⟨fuel, hf⟩ := h
  obtain ⟨xs, m, rfl, hx, hl, hxl, hi⟩ := DataW.trod_array ht hf
  rw [hc] at hl
  obtain ⟨L, hL, hLl, hw⟩ := ints_of (k := k) v.cells.toList (fun c hcm => by
    obtain ⟨i, hi', rfl⟩ := List.getElem_of_mem hcm
    have h1 := hi i (by omega)
    rw [hce, Nat.mul_one] at h1
    have h2 : (v.cells.toList.drop i).take 1 = [v.cells.toList[i]] := by rw [List.drop_eq_getElem_cons hi']; rfl
    rw [h2, List.getElem?_eq_getElem (by omega)] at h1
    obtain ⟨q, hq, _, hqw⟩ := DataW.trod_int he h1
    exact ⟨q, by simpa using hq, hqw⟩)
  have hLn : L.length = n := hLl.trans hl
  refine ⟨L, ?_, hLn, hw⟩
  cases v with
  | agg cs =>
    show Value.agg cs = Value.agg (L.map (Value.int k)).toArray
    congr 1
    have h3 : cs.toList = L.map (Value.int k) := hL
    rw [← h3]
  | _ => exfalso; simp [Value.cells] at hl; omega

theorem byt_of_wf {L : List Int} (h : ∀ x ∈ L, (Lit.int .u8 x).wf = true) : Byt L := fun x hx => by have := bounds_u8 (h x hx); omega
open Go.ChangeShapes Go.WideShapes Go.ChangeAt Go.RowKit

section
variable {H : Type} {enc : TypeId × Value → H} {P : Program} {W : World}
theorem open_bytes {t e : TypeId} {p : Option Addr} {n c : Nat} {d : DataW H} {ps : List MemPlace} (ht : P.underlying t = some (.slice e)) (he : P.underlying e = some (.int .u8)) (hc : P.cellsOf e = 1) (h : DataW.Trod enc P W 0 (fun _ => true) true t (.slice p n c) d ps) :
    ∃ l : List Int, l.length = n ∧ Byt l ∧ BytesIn W p l ∧ n ≤ c ∧ (d = .nil ∧ n = 0 ∨ ∃ el sp, d = .slice el sp ∧ el.length = n) := by
  obtain ⟨fuel, hf⟩ := h
  rcases open_ints ht he hc hf with ⟨h0, hx⟩ | ⟨a, len, cap, zs, h0, hb, hl, hm, hz, hx, hcell, hw⟩
  · have e1 : Value.slice p n c = .slice none 0 0 := by simpa [Value.cells] using h0
    injection e1 with e1 e2 e3
    subst e1; subst e2; subst e3
    simp only [Prod.mk.injEq] at hx
    exact ⟨[], rfl, fun x hx => by simp at hx, fun i hi => by simp at hi, Nat.le_refl _, .inl ⟨hx.1, rfl⟩⟩
  · have e1 : Value.slice p n c = .slice (some a) len cap := by simpa [Value.cells] using h0
    injection e1 with e1 e2 e3
    subst e1; subst e2; subst e3
    simp only [Prod.mk.injEq] at hx
    simp only [if_true] at hz
    have hln : (zs.take n).length = n := by rw [List.length_take]; omega
    refine ⟨zs.take n, hln, fun x hx' => ?_, fun i hi => ?_, hl, .inr ⟨_, _, hx.1, by simp [lits]; omega⟩⟩
    · have := bounds_u8 (hw x (List.mem_of_mem_take hx'))
      omega
    · have hi' : i < n := by omega
      have hcl := hcell i (by omega)
      refine ⟨a, rfl, ?_, ?_⟩
      · have := World.block_lt_of_cell? W _ hcl
        rwa [add_block] at this
      · rw [hcl]
        congr 2
        simp only [nth, List.getD_eq_getElem?_getD]
        rw [List.getElem?_take, if_pos hi']
/-- How long it can be at the most. -/
theorem sized_bytes {ts : List TypeId} {ds : List (DataW H)} {t e : TypeId} {j n : Nat} {d : DataW H} (h : (DataW.weightsEach P ts ds).all (· ≤ reachBytes) = true) (ht : ts[j]? = some t) (hd : ds[j]? = some d) (hu : P.underlying t = some (.slice e)) (hb : P.bytesOf e = 1)
    (hs : d = .nil ∧ n = 0 ∨ ∃ el sp, d = .slice el sp ∧ el.length = n) : n ≤ 140737488355328 := by
  rcases hs with ⟨_, rfl⟩ | ⟨el, sp, rfl, rfl⟩
  · omega
  · have h1 := sized_slice h ht hd hu
    rw [hb, Nat.mul_one] at h1
    have h2 := reachBytes_lt
    omega
end
open Go.ChangeShapes Go.WideShapes Go.ChangeAt Go.RowKit
section
variable {H : Type} {enc : TypeId × Value → H} {P : Program} {W : World}
/-- Bytes that come in, at a field. -/
theorem trod_bytes {t e : TypeId} {fuel : Nat} {cs : List Value} {x : DataW H × List MemPlace} (ht : P.underlying t = some (.slice e)) (he : P.underlying e = some (.int .u8)) (hc : P.cellsOf e = 1) (hf : DataW.trod enc P W 0 (fun _ => true) true fuel t cs = some x) :
    ∃ (p : Option Addr) (n c : Nat) (l : List Int), cs = [.slice p n c] ∧ l.length = n ∧ Byt l ∧ BytesIn W p l ∧ n ≤ c ∧ (p = none → c = 0) ∧ (x.1 = .nil ∧ n = 0 ∨ ∃ el sp, x.1 = .slice el sp ∧ el.length = n) := by
  rcases open_ints ht he hc hf with ⟨h0, hx⟩ | ⟨a, len, cap, zs, h0, hb, hl, hm, hz, hx, hcell, hw⟩
  · exact ⟨none, 0, 0, [], h0, rfl, fun x hx => by simp at hx, fun i hi => by simp at hi, Nat.le_refl _, fun _ => rfl, .inl ⟨by rw [hx], rfl⟩⟩
  · simp only [if_true] at hz
    have hln : (zs.take len).length = len := by rw [List.length_take]; omega
    refine ⟨some a, len, cap, zs.take len, h0, hln, fun x hx' => ?_, fun i hi => ?_, hl, fun h => (by cases h), .inr ⟨_, _, by rw [hx], by simp [lits]; omega⟩⟩
    · have := bounds_u8 (hw x (List.mem_of_mem_take hx'))
      omega
    · have hi' : i < len := by omega
      have hcl := hcell i (by omega)
      refine ⟨a, rfl, ?_, ?_⟩
      · have := World.block_lt_of_cell? W _ hcl
        rwa [add_block] at this
      · rw [hcl]
        congr 2
        simp only [nth, List.getD_eq_getElem?_getD]
        rw [List.getElem?_take, if_pos hi']
end
section
variable {H : Type} {enc : TypeId × Value → H} {W : World} {base : Nat} {spare : Nat → Bool} {held : Bool}
theorem six_of {l : List Value} (h : l.length = 6) {f : Nat → Int} (hi : ∀ k, k < 6 → (l.drop k).take 1 = [.int .i64 (f k)]) : l = [.int .i64 (f 0), .int .i64 (f 1), .int .i64 (f 2), .int .i64 (f 3), .int .i64 (f 4), .int .i64 (f 5)] := by
  match l, h with
  | [x, y, z, u, v, t], _ =>
    have h0 := hi 0 (by omega); have h1 := hi 1 (by omega); have h2 := hi 2 (by omega); have h3 := hi 3 (by omega); have h4 := hi 4 (by omega); have h5 := hi 5 (by omega)
    simp at h0 h1 h2 h3 h4 h5
    simp [h0, h1, h2, h3, h4, h5]
theorem trod_conf {fuel : Nat} {cs : List Value} {x : DataW H × List MemPlace} (hf : DataW.trod enc Tryd.prog W base spare held fuel 23 cs = some x) : ∃ n0 n1 n2 n3 n4 n5 : Int, cs = [.int .i64 n0, .int .i64 n1, .int .i64 n2, .int .i64 n3, .int .i64 n4, .int .i64 n5] := by
  obtain ⟨xs, m, rfl, hx, hl, hxl, hi⟩ := DataW.trod_struct Tryd.underlying23 hf
  rw [show Tryd.prog.cellsOf 23 = 6 by kernel_rfl] at hl
  have hx6 : xs.length = 6 := hxl
  have c3 : Tryd.prog.cellsOf 3 = 1 := by kernel_rfl
  have each : ∀ k, ∃ n : Int, k < 6 → (cs.drop k).take 1 = [.int .i64 n] := by
    intro k
    by_cases hk : k < 6
    · have hk' : DataW.trod enc Tryd.prog W base spare held m 3 ((cs.drop k).take (Tryd.prog.cellsOf 3)) = xs[k]? := by
        rcases (show k = 0 ∨ k = 1 ∨ k = 2 ∨ k = 3 ∨ k = 4 ∨ k = 5 by omega) with rfl | rfl | rfl | rfl | rfl | rfl
        · exact hi 0 _ rfl
        · exact hi 1 _ rfl
        · exact hi 2 _ rfl
        · exact hi 3 _ rfl
        · exact hi 4 _ rfl
        · exact hi 5 _ rfl
      rw [c3, List.getElem?_eq_getElem (by omega)] at hk'
      obtain ⟨n, e, _, _⟩ := DataW.trod_int Tryd.underlying3 hk'
      exact ⟨n, fun _ => e⟩
    · exact ⟨0, fun h => absurd h hk⟩
  obtain ⟨f, hf'⟩ := Classical.axiomOfChoice each
  exact ⟨f 0, f 1, f 2, f 3, f 4, f 5, six_of hl hf'⟩
theorem trod_drop {fuel : Nat} {cs : List Value} {x : DataW H × List MemPlace} (hf : DataW.trod enc Tryd.prog W base spare held fuel 42 cs = some x) : ∃ d : List Int, d.length = 16 ∧ cs = d.map (Value.int .u8) := by
  obtain ⟨xs, m, rfl, hx, hl, hxl, hi⟩ := DataW.trod_array Tryd.underlying42 hf
  rw [show Tryd.prog.cellsOf 42 = 16 by kernel_rfl] at hl
  have c3 : Tryd.prog.cellsOf 5 = 1 := by kernel_rfl
  have each : ∀ k, ∃ n : Int, k < 16 → cs[k]? = some (.int .u8 n) := by
    intro k
    by_cases hk : k < 16
    · have hk' := hi k hk
      rw [c3, List.getElem?_eq_getElem (by omega), Nat.mul_one] at hk'
      obtain ⟨n, e, _, _⟩ := DataW.trod_int Tryd.underlying5 hk'
      refine ⟨n, fun _ => ?_⟩
      have h1 : ((cs.drop k).take 1)[0]? = some (.int .u8 n) := by rw [e]; rfl
      rw [List.getElem?_take, if_pos (by omega), List.getElem?_drop] at h1
      exact h1
    · exact ⟨0, fun h => absurd h hk⟩
  obtain ⟨f, hf'⟩ := Classical.axiomOfChoice each
  refine ⟨(List.range 16).map f, by simp, ?_⟩
  apply List.ext_getElem?
  intro k
  by_cases hk : k < 16
  · rw [hf' k hk]
    simp [hk]
  · rw [List.getElem?_eq_none (by omega), List.getElem?_eq_none (by simp; omega)]
end
section
variable {H : Type} {enc : TypeId × Value → H} {W : World}
/-- A Talk, opened. -/
theorem open_talk {v : Value} {d : DataW H} {ps : List MemPlace} (h : DataW.Trod enc Tryd.prog W 0 (fun _ => true) true 44 v d ps) :
    ∃ (n0 n1 n2 n3 n4 n5 : Int) (dl : List Int) (y : Bool) (pm qb : Option Addr) (nm cm nb cb : Nat) (m b : List Int) (x0 x1 x2 x3 x4 : DataW H),
      v = .agg (List.toArray (α := Value) ([.int .i64 n0, .int .i64 n1, .int .i64 n2, .int .i64 n3, .int .i64 n4, .int .i64 n5] ++ dl.map (Value.int .u8) ++ [.bool y, .slice pm nm cm, .slice qb nb cb])) ∧ dl.length = 16 ∧ d = .agg [x0, x1, x2, x3, x4] ∧
      (m.length = nm ∧ Byt m ∧ BytesIn W pm m ∧ nm ≤ cm ∧ (pm = none → cm = 0) ∧ (x3 = .nil ∧ nm = 0 ∨ ∃ el sp, x3 = .slice el sp ∧ el.length = nm)) ∧
      (b.length = nb ∧ Byt b ∧ BytesIn W qb b ∧ nb ≤ cb ∧ (qb = none → cb = 0) ∧ (x4 = .nil ∧ nb = 0 ∨ ∃ el sp, x4 = .slice el sp ∧ el.length = nb)) := by
  obtain ⟨fuel, hf⟩ := h
  obtain ⟨xs, k, rfl, hx, hl, hxl, hi⟩ := DataW.trod_struct Tryd.underlying44 hf
  rw [show Tryd.prog.cellsOf 44 = 25 by kernel_rfl] at hl
  have hx5 : xs.length = 5 := hxl
  obtain ⟨z0, z1, z2, z3, z4, rfl⟩ : ∃ a b c e f, xs = [a, b, c, e, f] := by
    match xs, hx5 with
    | [a, b, c, e, f], _ => exact ⟨a, b, c, e, f, rfl⟩
  have h0 := hi 0 _ rfl
  have h1 := hi 1 _ rfl
  have h2 := hi 2 _ rfl
  have h3 := hi 3 _ rfl
  have h4 := hi 4 _ rfl
  replace h0 : DataW.trod enc Tryd.prog W 0 (fun _ => true) true k 23 ((v.cells.toList.drop 0).take (Tryd.prog.cellsOf 23)) = some z0 := h0
  replace h1 : DataW.trod enc Tryd.prog W 0 (fun _ => true) true k 42 ((v.cells.toList.drop 6).take (Tryd.prog.cellsOf 42)) = some z1 := h1
  replace h2 : DataW.trod enc Tryd.prog W 0 (fun _ => true) true k 4 ((v.cells.toList.drop 22).take (Tryd.prog.cellsOf 4)) = some z2 := h2
  replace h3 : DataW.trod enc Tryd.prog W 0 (fun _ => true) true k 28 ((v.cells.toList.drop 23).take (Tryd.prog.cellsOf 28)) = some z3 := h3
  replace h4 : DataW.trod enc Tryd.prog W 0 (fun _ => true) true k 28 ((v.cells.toList.drop 24).take (Tryd.prog.cellsOf 28)) = some z4 := h4
  rw [show Tryd.prog.cellsOf 23 = 6 by kernel_rfl] at h0
  rw [show Tryd.prog.cellsOf 42 = 16 by kernel_rfl] at h1
  rw [show Tryd.prog.cellsOf 4 = 1 by kernel_rfl] at h2
  rw [show Tryd.prog.cellsOf 28 = 1 by kernel_rfl] at h3 h4
  obtain ⟨n0, n1, n2, n3, n4, n5, e0⟩ := trod_conf h0
  obtain ⟨dl, hd, e1⟩ := trod_drop h1
  obtain ⟨y, e2, _⟩ := DataW.trod_bool Tryd.underlying4 h2
  obtain ⟨pm, nm, cm, m, e3, hm⟩ := trod_bytes Tryd.underlying28 Tryd.underlying5 (by kernel_rfl) h3
  obtain ⟨qb, nb, cb, b, e4, hb⟩ := trod_bytes Tryd.underlying28 Tryd.underlying5 (by kernel_rfl) h4
  refine ⟨n0, n1, n2, n3, n4, n5, dl, y, pm, qb, nm, cm, nb, cb, m, b, z0.1, z1.1, z2.1, z3.1, z4.1, ?_, hd, ?_, hm, hb⟩
  · have hw : v.cells.toList = [.int .i64 n0, .int .i64 n1, .int .i64 n2, .int .i64 n3, .int .i64 n4, .int .i64 n5] ++ dl.map (Value.int .u8) ++ [.bool y, .slice pm nm cm, .slice qb nb cb] := by
      rw [← e0, ← e1]
      generalize v.cells.toList = L at *
      have a1 : L.drop 22 = [.bool y, .slice pm nm cm, .slice qb nb cb] := by
        have b1 : L.drop 22 = (L.drop 22).take 1 ++ ((L.drop 23).take 1 ++ (L.drop 24).take 1) := by
          have c1 : (L.drop 24).take 1 = L.drop 24 := List.take_of_length_le (by rw [List.length_drop]; omega)
          rw [c1]
          have c2 : (L.drop 23).take 1 ++ L.drop 24 = L.drop 23 := by
            have := List.take_append_drop 1 (L.drop 23)
            rwa [List.drop_drop] at this
          rw [c2]
          have := List.take_append_drop 1 (L.drop 22)
          rw [List.drop_drop] at this
          exact this.symm
        rw [b1, e2, e3, e4]
        rfl
      rw [← a1, List.drop_zero]
      have b2 : (L.drop 6).take 16 ++ L.drop 22 = L.drop 6 := by
        have := List.take_append_drop 16 (L.drop 6)
        rwa [List.drop_drop] at this
      rw [List.append_assoc, b2]
      exact (List.take_append_drop 6 L).symm
    cases v with
    | agg cs =>
      have h7 : cs.toList = _ := hw
      rw [← h7]
    | _ => exfalso; simp [Value.cells] at hl
  · have : d = (.agg ([z0, z1, z2, z3, z4].map (·.1)) : DataW H) := by
      have := congrArg Prod.fst hx
      exact this
    rw [this]
    rfl
end
open Go.ChangeShapes Go.WideShapes Go.ChangeAt Go.RowKit

theorem as_et : Tryd.prog.globalNamed "errors.errorType" = some 0 := by kernel_rfl
theorem as_rt : (Tryd.prog.cutTypes.find? (·.1 == "internal/reflectlite.rtype")).map (·.2) = some 112 := by kernel_rfl
theorem as_oneRow : ((List.range 153).filter fun t => Tryd.prog.rowNamed t [101, 114, 114, 111, 114]) = [83] := by kernel_rfl
theorem as_size : Tryd.prog.types.size = 153 := by kernel_rfl
/-- What the condition gives a walk: the variable's one cell. -/
theorem handle_of_laid {W : World} (h : laidMetH Tryd.prog Rows.codecOnceRow.laid W) : Handle W := by
  have h' : laidMet Tryd.prog [] W ∧ handlesMet Tryd.prog Rows.codecOnceRow.laid W := h
  obtain ⟨name, u, ty, e1, e2, e3, e4, e5⟩ := h'.2 _ (List.mem_singleton.2 rfl)
  have en : name = [101, 114, 114, 111, 114] := (Option.some.inj e1).symm
  subst en
  obtain rfl := Option.some.inj (as_rt.symm.trans e2)
  have hm : ty ∈ (List.range 153).filter fun t => Tryd.prog.rowNamed t [101, 114, 114, 111, 114] := List.mem_filter.2 ⟨List.mem_range.2 (by rw [← as_size]; exact e3), e4⟩
  rw [as_oneRow] at hm
  obtain rfl := List.mem_singleton.1 hm
  have hh : typeHandle Tryd.prog 83 = .pointer (some ⟨1, 83, none⟩) := by kernel_rfl
  rw [hh] at e5
  unfold Handle
  simpa using World.var?_cell as_et e5 0
/-- A world that meets the condition on the listed variable. -/
noncomputable def laidWorld (os : Os) : World :=
  let w0 := World.holding Tryd.prog os ⟨#[], #[], []⟩
  { w0 with heap := w0.heap.modify 0 fun
      | .cells _ t frozen => .cells #[.iface 112 (.agg #[.pointer (some ⟨1, 83, none⟩)])] t frozen
      | o => o }
theorem laidWorld_met (os : Os) (args : Array Value) : laidMetH Tryd.prog Rows.codecOnceRow.laid ((laidWorld os).forCall (fun _ _ => 0) ⟨#[], args, []⟩).memory :=
  laidMetH_of_parts (laidMet_nil _ _) (by kernel_rfl)

set_option maxRecDepth 100000 in
theorem codecOnce_lifted (os : Os) (started : os.Started) (H : Type) (enc : TypeId × Value → H) :
    ReturnsInHanded {} Tryd.checked os 6 .any (fun w args => (Rows.codecOnceSpec.pre enc Tryd.prog Tryd.f6 [] false w args ∧ laidMetH Tryd.prog Rows.codecOnceRow.laid w) ∧ sizedMet enc Tryd.prog Tryd.f6 (OpenSpec.ofChange Rows.codecOnceSpec) false w args)
      (Rows.codecOnceSpec.post enc Tryd.prog Tryd.f6 false true false false) := by
  refine returnsInHanded_of_change_and (C := Tryd.checked) (X := fun w _ => laidMetH Tryd.prog Rows.codecOnceRow.laid w) (fun _ _ _ hh h => h.of_heap hh) own started (by kernel_rfl) Tryd.func6
    (ChangeSpec.witness_at (enc := enc) (C := Tryd.checked) (os := os) (X := fun w _ => laidMetH Tryd.prog Rows.codecOnceRow.laid w) false (laidWorld os) #[.agg #[.int .i64 0, .int .i64 0, .int .i64 0, .int .i64 0, .int .i64 0, .int .i64 0, .int .u8 0, .int .u8 0, .int .u8 0, .int .u8 0, .int .u8 0, .int .u8 0, .int .u8 0, .int .u8 0, .int .u8 0, .int .u8 0, .int .u8 0, .int .u8 0, .int .u8 0, .int .u8 0, .int .u8 0, .int .u8 0, .bool false, .slice none 0 0, .slice none 0 0]] 8 rfl (by kernel_rfl) (by kernel_rfl) (by kernel_rfl) (by kernel_rfl) (by kernel_rfl) (laidWorld_met os _)) ?_
  intro W base args ds gs before hval0 hW _ hreach hL _
  have hval : ∀ (j : Nat) t v, Tryd.f6.params[j]? = some t → args[j]? = some v → Value.okWide Tryd.prog W .any base t v := hval0
  have hW' := hW
  obtain ⟨p, q, hA0, hV, rfl, hfz, hnd⟩ := hW
  have hA : DataW.TrodAll enc Tryd.prog W 0 (fun _ => true) true Tryd.f6.params.toList args.toList ds p := hA0
  rw [Tryd.params6] at hA hreach hval
  obtain ⟨v0, vs0, d0, ds0, p0, q0, hargs, rfl, rfl, h0, r0⟩ := trodAll_cons hA
  obtain ⟨rfl, rfl, rfl⟩ := trodAll_nil r0
  obtain rfl : args = #[v0] := by cases args; simp_all
  obtain ⟨rfl, rfl⟩ := trodVars_none hV
  have k0 := h0
  have lt0 : ∀ x ∈ p0, x.block < W.heap.size := by obtain ⟨m, hm⟩ := k0; exact DataW.trod_lt m _ _ _ hm
  obtain ⟨n0, n1, n2, n3, n4, n5, dl, y, pm, qb, nm, cm, nb, cb, m, B, z0, z1, z2, z3, z4, rfl, hdl, rfl, ⟨lm, bm, im, lem, hm, sm⟩, ⟨lB, bB, iB, leB, hB, sB⟩⟩ := open_talk h0
  have hr5 : (DataW.weightsEach Tryd.prog [23, 42, 4, 28, 28] [z0, z1, z2, z3, z4]).all (· ≤ reachBytes) = true := by
    have h2 : DataW.weightsEach Tryd.prog [44] [DataW.agg [z0, z1, z2, z3, z4]] = DataW.weightsEach Tryd.prog [23, 42, 4, 28, 28] [z0, z1, z2, z3, z4] := by
      rw [DataW.weightsEach, DataW.weights, Tryd.underlying44]
      exact List.append_nil _
    rw [← h2]
    exact hreach
  have zm := sized_bytes hr5 (j := 3) rfl rfl Tryd.underlying28 (by kernel_rfl) sm
  have zB := sized_bytes hr5 (j := 4) rfl rfl Tryd.underlying28 (by kernel_rfl) sB
  obtain ⟨x0, x1, x2, x3, x4, x5, x6, x7, x8, x9, x10, x11, x12, x13, x14, x15, rfl⟩ := sixteen hdl
  clear hA0 hval0
  have hw : Calls Tryd.prog 6 #[.agg #[.int .i64 n0, .int .i64 n1, .int .i64 n2, .int .i64 n3, .int .i64 n4, .int .i64 n5, .int .u8 x0, .int .u8 x1, .int .u8 x2, .int .u8 x3, .int .u8 x4, .int .u8 x5, .int .u8 x6, .int .u8 x7, .int .u8 x8, .int .u8 x9, .int .u8 x10, .int .u8 x11, .int .u8 x12, .int .u8 x13, .int .u8 x14, .int .u8 x15, .bool y, .slice pm nm cm, .slice qb nb cb]] W (fun e w' => e = .returned (.bool true) ∧ Below W.heap.size W w') :=
    codecOnce_any n0 n1 n2 n3 n4 n5 x0 x1 x2 x3 x4 x5 x6 x7 x8 x9 x10 x11 x12 x13 x14 x15 y pm qb B nm cm nb cb W (handle_of_laid hL) lB bB iB zB leB
  refine hw.mono fun e W' ⟨he, bel⟩ => ?_
  subst he
  exact ⟨_, rfl, _, _, _, [], _, [], hW', trodAll_mk1 (shut_bool Tryd.underlying4 _), (trodAll_cons_mk (Below.trod laidOut (by kernel_rfl) (of_decide_eq_true (by kernel_rfl)) k0 bel lt0) trodAll_mk0), rfl, bel.frame _, fun h => by cases h⟩

theorem codecOnce_row : Rows.CodecOnceSaid :=
  OpenClaim.holds_of_wide 6 Tryd.f6 rfl rfl rfl rfl rfl rfl rfl ⟨rfl, rfl, rfl, rfl, rfl⟩ rfl rfl rfl rfl rfl (by kernel_rfl) Tryd.func6 (by kernel_rfl)
    (of_decide_eq_true (by kernel_rfl)) (by unfold Func.isWrapper; first | (rw [if_pos (by decide +kernel)]; kernel_rfl) | (rw [if_neg (by decide +kernel)]; exact ⟨rfl, rfl⟩))
    (fun os started H enc _ => codecOnce_lifted os started H enc)

theorem codecOnce_holds : Rows.CodecOnceCardSaid :=
  Claim7.holds_tied_plain_at .later [] _ _ _ _ codecOnce_row (fun _ h => by cases h) (by kernel_rfl) (fun _ h => by cases h) codecOnce_row_tie rfl ⟨rfl, rfl⟩ (by kernel_rfl) rfl
    (fun f fn hf hfn => by
      obtain rfl : f = 6 := Option.some.inj ((show Tryd.prog.funcNamed "tryst/trystlaw20.CodecOnce" = some 6 by kernel_rfl).symm.trans hf) |>.symm
      obtain rfl : fn = Tryd.f6 := (Option.some.inj (Tryd.func6.symm.trans hfn)).symm
      exact ⟨by kernel_rfl, fun j t ht => by
        rw [Tryd.params6] at ht
        match j, ht with
        | 0, ht => obtain rfl : 44 = t := by simpa using ht
                   exact (show Tryd.prog.wantsStandIn 44 = false by kernel_rfl)
        | j + 1, ht => simp at ht⟩)
    (by kernel_rfl)
#print axioms codecOnce_holds
end Go.Proofs.YtmochmpamgfboabDoor
