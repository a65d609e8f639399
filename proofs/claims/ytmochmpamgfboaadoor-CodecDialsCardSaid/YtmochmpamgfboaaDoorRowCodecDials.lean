/- The law CodecDials of package trystlaw20: for every config, bucket, invitation and list of bytes the call returns true, and the argument reads afterwards as it read before; and its card: the one listed variable (errors.errorType) tied to the program's text. No condition. -/
import Derived.Test.YtmochmpamgfboaaDoorWalkDials
import Derived.Test.YtmochmpamgfboaaDoorOpenT
import Derived.Test.YtmochmpamgfboaaDoorCards
import Derived.Test.YtmochmpamgfboaaDoorTie
import Derived.ChangeSame
import Derived.ChangeVars
import Derived.JoinedOf
import Derived.RowKit
import Derived.RowKitTokens
import Derived.LaidLaws
import Derived.LaidHandle
import Derived.Stop.Joined
import Derived.SevenTiedAt
namespace Go.Proofs.YtmochmpamgfboaaDoor
open Go.ChangeShapes Go.WideShapes Go.ChangeAt Go.RowKit

section
variable {H : Type} {enc : TypeId × Value → H} {W : World}
theorem nine_cells {l : List Value} (h : l.length = 9) : l = (l.drop 0).take 6 ++ ((l.drop 6).take 1 ++ ((l.drop 7).take 1 ++ (l.drop 8).take 1)) := by
  have c1 : (l.drop 8).take 1 = l.drop 8 := List.take_of_length_le (by rw [List.length_drop]; omega)
  have c2 : (l.drop 7).take 1 ++ l.drop 8 = l.drop 7 := by
    have := List.take_append_drop 1 (l.drop 7)
    rwa [List.drop_drop] at this
  have c3 : (l.drop 6).take 1 ++ l.drop 7 = l.drop 6 := by
    have := List.take_append_drop 1 (l.drop 6)
    rwa [List.drop_drop] at this
  rw [c1, c2, c3, List.drop_zero]
  exact (List.take_append_drop 6 l).symm
/-- A Dial, opened. -/
theorem open_dial {v : Value} {d : DataW H} {ps : List MemPlace} (h : DataW.Trod enc Tryd.prog W 0 (fun _ => true) true 50 v d ps) :
    ∃ (n0 n1 n2 n3 n4 n5 kb : Int) (pm qb : Option Addr) (nm cm nb cb : Nat) (m b : List Int) (x0 x1 x2 x3 : DataW H),
      v = .agg #[.int .i64 n0, .int .i64 n1, .int .i64 n2, .int .i64 n3, .int .i64 n4, .int .i64 n5, .int .i64 kb, .slice pm nm cm, .slice qb nb cb] ∧ d = .agg [x0, x1, x2, x3] ∧
      (m.length = nm ∧ Byt m ∧ BytesIn W pm m ∧ nm ≤ cm ∧ (pm = none → cm = 0) ∧ (x2 = .nil ∧ nm = 0 ∨ ∃ el sp, x2 = .slice el sp ∧ el.length = nm)) ∧
      (b.length = nb ∧ Byt b ∧ BytesIn W qb b ∧ nb ≤ cb ∧ (qb = none → cb = 0) ∧ (x3 = .nil ∧ nb = 0 ∨ ∃ el sp, x3 = .slice el sp ∧ el.length = nb)) := by
  obtain ⟨fuel, hf⟩ := h
  obtain ⟨xs, k, rfl, hx, hl, hxl, hi⟩ := DataW.trod_struct Tryd.underlying50 hf
  rw [show Tryd.prog.cellsOf 50 = 9 by kernel_rfl] at hl
  have hx4 : xs.length = 4 := hxl
  obtain ⟨z0, z1, z2, z3, rfl⟩ : ∃ a b c e, xs = [a, b, c, e] := by
    match xs, hx4 with
    | [a, b, c, e], _ => exact ⟨a, b, c, e, rfl⟩
  have h0 := hi 0 _ rfl
  have h1 := hi 1 _ rfl
  have h2 := hi 2 _ rfl
  have h3 := hi 3 _ rfl
  replace h0 : DataW.trod enc Tryd.prog W 0 (fun _ => true) true k 23 ((v.cells.toList.drop 0).take (Tryd.prog.cellsOf 23)) = some z0 := h0
  replace h1 : DataW.trod enc Tryd.prog W 0 (fun _ => true) true k 3 ((v.cells.toList.drop 6).take (Tryd.prog.cellsOf 3)) = some z1 := h1
  replace h2 : DataW.trod enc Tryd.prog W 0 (fun _ => true) true k 26 ((v.cells.toList.drop 7).take (Tryd.prog.cellsOf 26)) = some z2 := h2
  replace h3 : DataW.trod enc Tryd.prog W 0 (fun _ => true) true k 26 ((v.cells.toList.drop 8).take (Tryd.prog.cellsOf 26)) = some z3 := h3
  rw [show Tryd.prog.cellsOf 23 = 6 by kernel_rfl] at h0
  rw [show Tryd.prog.cellsOf 3 = 1 by kernel_rfl] at h1
  rw [show Tryd.prog.cellsOf 26 = 1 by kernel_rfl] at h2 h3
  obtain ⟨n0, n1, n2, n3, n4, n5, e0⟩ := trod_conf h0
  obtain ⟨kb, e1, _, _⟩ := DataW.trod_int Tryd.underlying3 h1
  obtain ⟨pm, nm, cm, m, e2, hm⟩ := trod_bytes Tryd.underlying26 Tryd.underlying5 (by kernel_rfl) h2
  obtain ⟨qb, nb, cb, b, e3, hb⟩ := trod_bytes Tryd.underlying26 Tryd.underlying5 (by kernel_rfl) h3
  refine ⟨n0, n1, n2, n3, n4, n5, kb, pm, qb, nm, cm, nb, cb, m, b, z0.1, z1.1, z2.1, z3.1, ?_, ?_, hm, hb⟩
  · have hw : v.cells.toList = [.int .i64 n0, .int .i64 n1, .int .i64 n2, .int .i64 n3, .int .i64 n4, .int .i64 n5, .int .i64 kb, .slice pm nm cm, .slice qb nb cb] := by
      rw [nine_cells hl, e0, e1, e2, e3]
      rfl
    cases v with
    | agg cs =>
      have h7 : cs.toList = _ := hw
      have h8 : cs = [Value.int .i64 n0, .int .i64 n1, .int .i64 n2, .int .i64 n3, .int .i64 n4, .int .i64 n5, .int .i64 kb, .slice pm nm cm, .slice qb nb cb].toArray := by rw [← h7]
      exact congrArg Value.agg h8
    | _ => exfalso; simp [Value.cells] at hl
  · have : d = (.agg ([z0, z1, z2, z3].map (·.1)) : DataW H) := by
      have := congrArg Prod.fst hx
      exact this
    rw [this]
    rfl
end
theorem as_et : Tryd.prog.globalNamed "errors.errorType" = some 0 := by kernel_rfl
theorem as_rt : (Tryd.prog.cutTypes.find? (·.1 == "internal/reflectlite.rtype")).map (·.2) = some 120 := by kernel_rfl
theorem as_oneRow : ((List.range 161).filter fun t => Tryd.prog.rowNamed t [101, 114, 114, 111, 114]) = [92] := by kernel_rfl
theorem as_size : Tryd.prog.types.size = 161 := by kernel_rfl
/-- What the condition gives a walk: the variable's one cell. -/
theorem handle_of_laid {W : World} (h : laidMetH Tryd.prog Rows.codecDialsRow.laid W) : Handle W := by
  have h' : laidMet Tryd.prog [] W ∧ handlesMet Tryd.prog Rows.codecDialsRow.laid W := h
  obtain ⟨name, u, ty, e1, e2, e3, e4, e5⟩ := h'.2 _ (List.mem_singleton.2 rfl)
  have en : name = [101, 114, 114, 111, 114] := (Option.some.inj e1).symm
  subst en
  obtain rfl := Option.some.inj (as_rt.symm.trans e2)
  have hm : ty ∈ (List.range 161).filter fun t => Tryd.prog.rowNamed t [101, 114, 114, 111, 114] := List.mem_filter.2 ⟨List.mem_range.2 (by rw [← as_size]; exact e3), e4⟩
  rw [as_oneRow] at hm
  obtain rfl := List.mem_singleton.1 hm
  have hh : typeHandle Tryd.prog 92 = .pointer (some ⟨1, 92, none⟩) := by kernel_rfl
  rw [hh] at e5
  unfold Handle
  simpa using World.var?_cell as_et e5 0
/-- A world that meets the condition on the listed variable. -/
noncomputable def laidWorld (os : Os) : World :=
  let w0 := World.holding Tryd.prog os ⟨#[], #[], []⟩
  { w0 with heap := w0.heap.modify 0 fun
      | .cells _ t frozen => .cells #[.iface 120 (.agg #[.pointer (some ⟨1, 92, none⟩)])] t frozen
      | o => o }
theorem laidWorld_met (os : Os) (args : Array Value) : laidMetH Tryd.prog Rows.codecDialsRow.laid ((laidWorld os).forCall (fun _ _ => 0) ⟨#[], args, []⟩).memory :=
  laidMetH_of_parts (laidMet_nil _ _) (by kernel_rfl)

set_option maxRecDepth 100000 in
theorem codecDials_lifted (os : Os) (started : os.Started) (H : Type) (enc : TypeId × Value → H) :
    ReturnsInHanded {} Tryd.checked os 5 .any (fun w args => (Rows.codecDialsSpec.pre enc Tryd.prog Tryd.f5 [] false w args ∧ laidMetH Tryd.prog Rows.codecDialsRow.laid w) ∧ sizedMet enc Tryd.prog Tryd.f5 (OpenSpec.ofChange Rows.codecDialsSpec) false w args)
      (Rows.codecDialsSpec.post enc Tryd.prog Tryd.f5 false true false false) := by
  refine returnsInHanded_of_change_and (C := Tryd.checked) (X := fun w _ => laidMetH Tryd.prog Rows.codecDialsRow.laid w) (fun _ _ _ hh h => h.of_heap hh) own started (by kernel_rfl) Tryd.func5
    (ChangeSpec.witness_at (enc := enc) (C := Tryd.checked) (os := os) (X := fun w _ => laidMetH Tryd.prog Rows.codecDialsRow.laid w) false (laidWorld os) #[.agg #[.int .i64 0, .int .i64 0, .int .i64 0, .int .i64 0, .int .i64 0, .int .i64 0, .int .i64 0, .slice none 0 0, .slice none 0 0]] 8 rfl (by kernel_rfl) (by kernel_rfl) (by kernel_rfl) (by kernel_rfl) (by kernel_rfl) (laidWorld_met os _)) ?_
  intro W base args ds gs before hval0 hW _ hreach hL _
  have hW' := hW
  obtain ⟨p, q, hA0, hV, rfl, hfz, hnd⟩ := hW
  have hA : DataW.TrodAll enc Tryd.prog W 0 (fun _ => true) true Tryd.f5.params.toList args.toList ds p := hA0
  rw [Tryd.params5] at hA hreach
  obtain ⟨v0, vs0, d0, ds0, p0, q0, hargs, rfl, rfl, h0, r0⟩ := trodAll_cons hA
  obtain ⟨rfl, rfl, rfl⟩ := trodAll_nil r0
  obtain rfl : args = #[v0] := by cases args; simp_all
  obtain ⟨rfl, rfl⟩ := trodVars_none hV
  have k0 := h0
  have lt0 : ∀ x ∈ p0, x.block < W.heap.size := by obtain ⟨m, hm⟩ := k0; exact DataW.trod_lt m _ _ _ hm
  obtain ⟨n0, n1, n2, n3, n4, n5, k, pm, qb, nm, cm, nb, cb, m, B, z0, z1, z2, z3, rfl, rfl, ⟨lm, bm, im, lem, hm, sm⟩, ⟨lB, bB, iB, leB, hB, sB⟩⟩ := open_dial h0
  have hr4 : (DataW.weightsEach Tryd.prog [23, 3, 26, 26] [z0, z1, z2, z3]).all (· ≤ reachBytes) = true := by
    have h1 : DataW.weightsEach Tryd.prog [50] [DataW.agg [z0, z1, z2, z3]] = DataW.weightsEach Tryd.prog [23, 3, 26, 26] [z0, z1, z2, z3] := by
      rw [DataW.weightsEach, DataW.weights, Tryd.underlying50]
      exact List.append_nil _
    rw [← h1]
    exact hreach
  have zm := sized_bytes hr4 (j := 2) rfl rfl Tryd.underlying26 (by kernel_rfl) sm
  have zB := sized_bytes hr4 (j := 3) rfl rfl Tryd.underlying26 (by kernel_rfl) sB
  clear hA0 hval0
  refine (codecDials_walk n0 n1 n2 n3 n4 n5 k pm qb m B nm cm nb cb W (handle_of_laid hL) lm im hm zm lB bB iB leB zB).mono fun e W' ⟨he, bel⟩ => ?_
  subst he
  exact ⟨_, rfl, _, _, _, [], _, [], hW', trodAll_mk1 (shut_bool Tryd.underlying4 _), (trodAll_cons_mk (Below.trod laidOut (by kernel_rfl) (of_decide_eq_true (by kernel_rfl)) k0 bel lt0) trodAll_mk0), rfl, bel.frame _, fun h => by cases h⟩

theorem codecDials_row : Rows.CodecDialsSaid :=
  OpenClaim.holds_of_wide 5 Tryd.f5 rfl rfl rfl rfl rfl rfl rfl ⟨rfl, rfl, rfl, rfl, rfl⟩ rfl rfl rfl rfl rfl (by kernel_rfl) Tryd.func5 (by kernel_rfl)
    (of_decide_eq_true (by kernel_rfl)) (by unfold Func.isWrapper; first | (rw [if_pos (by decide +kernel)]; kernel_rfl) | (rw [if_neg (by decide +kernel)]; exact ⟨rfl, rfl⟩))
    (fun os started H enc _ => codecDials_lifted os started H enc)

theorem codecDials_holds : Rows.CodecDialsCardSaid :=
  Claim7.holds_tied_plain_at .later [] _ _ _ _ codecDials_row (fun _ h => by cases h) (by kernel_rfl) (fun _ h => by cases h) codecDials_row_tie rfl ⟨rfl, rfl⟩ (by kernel_rfl) rfl
    (fun f fn hf hfn => by
      obtain rfl : f = 5 := Option.some.inj ((show Tryd.prog.funcNamed "tryst/trystlaw20.CodecDials" = some 5 by kernel_rfl).symm.trans hf) |>.symm
      obtain rfl : fn = Tryd.f5 := (Option.some.inj (Tryd.func5.symm.trans hfn)).symm
      exact ⟨by kernel_rfl, fun j t ht => by
        rw [Tryd.params5] at ht
        match j, ht with
        | 0, ht => obtain rfl : 50 = t := by simpa using ht
                   exact (show Tryd.prog.wantsStandIn 50 = false by kernel_rfl)
        | j + 1, ht => simp at ht⟩)
    (by kernel_rfl)
#print axioms codecDials_holds
end Go.Proofs.YtmochmpamgfboaaDoor
