/- An array of 32 bytes that comes in by value, opened as a list of bytes. No condition. -/
import Derived.Test.YtemkpihfenokmaaDoorRows
import Derived.Test.YtemkpihfenokmaaDoorElem2
import Derived.WalkKit
import Derived.ProofKit
import Derived.OpenShut
import Derived.ShutString
import Derived.ChangeOld
import Derived.Below
namespace Go.Proofs.YtemkpihfenokmaaDoor
open Go.ChangeShapes Go.WideShapes Go.ChangeAt Go.RowKit

theorem own : ownKnob Tryd.prog.godebug = none := by kernel_rfl
theorem laidOut : laidOutB Tryd.prog = true := by kernel_rfl

theorem ints_of {k : IntKind} : ∀ (cs : List Value), (∀ c ∈ cs, ∃ n, c = .int k n ∧ (Lit.int k n).wf = true) → ∃ L : List Int, cs = L.map (Value.int k) ∧ L.length = cs.length ∧ ∀ n ∈ L, (Lit.int k n).wf = true
  | [], _ => ⟨[], rfl, rfl, fun n h => by cases h⟩
  | c :: r, h => by
    obtain ⟨n, rfl, hn⟩ := h c (by simp)
    obtain ⟨L, rfl, hl, hw⟩ := ints_of r (fun x hx => h x (by simp [hx]))
    refine ⟨n :: L, rfl, by simp, fun m hm => ?_⟩
    rw [List.mem_cons] at hm
    rcases hm with rfl | hm
    · exact hn
    · exact hw m hm

theorem open_row {H : Type} {enc : TypeId × Value → H} {P : Program} {W : World} {base : Nat} {spare : Nat → Bool} {held : Bool} {t e : TypeId} {n : Nat} {k : IntKind} {v : Value} {d : DataW H} {ps : List MemPlace}
    (ht : P.underlying t = some (.array n e)) (he : P.underlying e = some (.int k)) (hc : P.cellsOf t = n) (hce : P.cellsOf e = 1) (hn : 2 ≤ n) (h : DataW.Trod enc P W base spare held t v d ps) :
    ∃ L : List Int, v = .agg (valsK k L) ∧ L.length = n ∧ ∀ x ∈ L, (Lit.int k x).wf = true := by
  obtain ⟨fuel, hf⟩ := h
  obtain ⟨xs, m, rfl, hx, hl, hxl, hi⟩ := DataW.trod_array ht hf
  rw [hc] at hl
  obtain ⟨L, hL, hLl, hw⟩ := ints_of (k := k) v.cells.toList (fun c hcm => by
    obtain ⟨i, hi', rfl⟩ := List.getElem_of_mem hcm
    have h1 := hi i (by omega)
    rw [hce, Nat.mul_one] at h1
    have h2 : (v.cells.toList.drop i).take 1 = [v.cells.toList[i]] := by rw [List.drop_eq_getElem_cons hi']; rfl
    rw [h2, List.getElem?_eq_getElem (by omega)] at h1
    obtain ⟨q, hq, _, hqw⟩ := DataW.trod_int he h1
    exact ⟨q, by simpa using hq, hqw⟩)
  have hLn : L.length = n := hLl.trans hl
  refine ⟨L, ?_, hLn, hw⟩
  cases v with
  | agg cs =>
    show Value.agg cs = Value.agg (L.map (Value.int k)).toArray
    congr 1
    have h3 : cs.toList = L.map (Value.int k) := hL
    rw [← h3]
  | _ => exfalso; simp [Value.cells] at hl; omega

theorem byt_of_wf {L : List Int} (h : ∀ x ∈ L, (Lit.int .u8 x).wf = true) : Byt L := fun x hx => by have := bounds_u8 (h x hx); omega
end Go.Proofs.YtemkpihfenokmaaDoor
