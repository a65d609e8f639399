/- The law InviteBuckets of package trystlaw22: for every key and number of buckets the call returns true, and each argument reads afterwards as it read before; and its card: the two listed variables (digest.first, digest.table) tied to the program's text. No condition. -/
import Derived.Test.YtemkpihfenokmaaDoorWalkBuckets
import Derived.Test.YtemkpihfenokmaaDoorOpen
import Derived.Test.YtemkpihfenokmaaDoorCards
import Derived.Test.YtemkpihfenokmaaDoorTie
import Derived.ChangeSame
import Derived.ChangeVars
import Derived.JoinedOf
import Derived.RowKit
import Derived.RowKitTokens
import Derived.LaidLaws
import Derived.LaidMore
import Derived.Lay
import Derived.Stop.Joined
import Derived.SevenTiedAt
namespace Go.Proofs.YtemkpihfenokmaaDoor
open Go.ChangeShapes Go.WideShapes Go.ChangeAt Go.RowKit

/-- An array of numbers that a variable lists, cell by cell. -/
theorem arr_cell {w : World} {n : String} {g m : Nat} {t e : TypeId} {κ : IntKind} {zs : List Int} {cs : Array Value} {fuel : Nat} {p : List MemPlace} (hd : DataW.trod (fun _ => ()) Tryd.prog w 0 (fun _ => true) false fuel t cs.toList = some (.agg (zs.map fun z => .lit (.int κ z)), p)) (hv : w.var? Tryd.prog n = some cs) (hg : Tryd.prog.globalNamed n = some g)
    (hu : Tryd.prog.underlying t = some (.array m e)) (hue : Tryd.prog.underlying e = some (.int κ)) (hc : Tryd.prog.cellsOf e = 1) (hlen : zs.length = m) (j : Nat) (hj : j < m) : w.cell? ⟨g, j, none⟩ = some (.int κ (nth zs j)) := by
  obtain ⟨xs, k, _, ex, _, hl, hel⟩ := DataW.trod_array hu hd
  have hE := hel j hj
  rw [hc, Nat.mul_one, List.getElem?_eq_getElem (by omega)] at hE
  obtain ⟨z, e1, e2, _⟩ := DataW.trod_int hue hE
  have e3 : (xs.map (·.1)) = zs.map fun n => .lit (.int κ n) := (DataW.agg.inj (Prod.mk.inj ex).1).symm
  have e4 : (xs.map (·.1))[j]? = (zs.map fun n => (DataW.lit (.int κ n) : DataW Unit))[j]? := by rw [e3]
  rw [List.getElem?_map, List.getElem?_map, List.getElem?_eq_getElem (by omega : j < xs.length), List.getElem?_eq_getElem (by omega : j < zs.length), e2] at e4
  have hz : z = nth zs j := by
    simp only [Option.map_some, Option.some.injEq, DataW.lit.injEq, Lit.int.injEq, true_and] at e4
    rw [e4, nth, List.getD, List.getElem?_eq_getElem (by omega : j < zs.length)]; rfl
  rw [World.var?_cell hg hv j, ← hz]
  have : cs.toList[j]? = some (.int κ z) := by
    have h0 : ((cs.toList.drop j).take 1)[0]? = some (.int κ z) := by rw [e1]; rfl
    simpa using h0
  simpa using this
theorem cell_lt {w : World} {g j : Nat} {v : Value} (h : w.cell? ⟨g, j, none⟩ = some v) : g < w.heap.size := by
  rcases Nat.lt_or_ge g w.heap.size with h' | h'
  · exact h'
  · simp [World.cell?, Array.getElem?_eq_none h'] at h
/-- What the condition gives a walk: the two variables' cells. -/
theorem vars_of_laid {W : World} (h : laidMetH Tryd.prog Rows.inviteBucketsRow.laid W) : Fst W ∧ Tab W := by
  rw [MakeChecks.laidMetH_plain _ _ _ (by kernel_rfl)] at h
  obtain ⟨ps, ⟨g, t, cs, fuel, p, q, hg, ht, hv, hd, ⟨g2, t2, cs2, fuel2, p2, q2, hg2, ht2, hv2, hd2, _, _⟩, _⟩, _, _⟩ := h
  obtain rfl := Option.some.inj ((show Tryd.prog.globalNamed "tryst/digest.first" = some 0 by kernel_rfl).symm.trans hg)
  obtain rfl := Option.some.inj ((show (Tryd.prog.globals[0]?).map (·.type) = some 50 by kernel_rfl).symm.trans ht)
  obtain rfl := Option.some.inj ((show Tryd.prog.globalNamed "tryst/digest.table" = some 1 by kernel_rfl).symm.trans hg2)
  obtain rfl := Option.some.inj ((show (Tryd.prog.globals[1]?).map (·.type) = some 59 by kernel_rfl).symm.trans ht2)
  have c1 : ∀ j, j < 8 → W.cell? ⟨0, j, none⟩ = some (.int .u32 (nth first8 j)) := fun j hj => arr_cell (zs := first8) hd hv hg Tryd.underlying50 Tryd.underlying49 (by kernel_rfl) (by kernel_rfl) j hj
  have c2 : ∀ j, j < 64 → W.cell? ⟨1, j, none⟩ = some (.int .u32 (nth K64 j)) := fun j hj => arr_cell (zs := K64) hd2 hv2 hg2 Tryd.underlying59 Tryd.underlying49 (by kernel_rfl) (by kernel_rfl) j hj
  exact ⟨⟨cell_lt (c1 0 (by omega)), c1⟩, ⟨cell_lt (c2 0 (by omega)), c2⟩⟩

set_option maxRecDepth 100000 in
theorem inviteBuckets_lifted (os : Os) (started : os.Started) (H : Type) (enc : TypeId × Value → H) :
    ReturnsInHanded {} Tryd.checked os 3 .any (fun w args => (Rows.inviteBucketsSpec.pre enc Tryd.prog Tryd.f3 [] false w args ∧ laidMetH Tryd.prog Rows.inviteBucketsRow.laid w) ∧ sizedMet enc Tryd.prog Tryd.f3 (OpenSpec.ofChange Rows.inviteBucketsSpec) false w args)
      (Rows.inviteBucketsSpec.post enc Tryd.prog Tryd.f3 false true false false) := by
  refine returnsInHanded_of_change_and (C := Tryd.checked) (X := fun w _ => laidMetH Tryd.prog Rows.inviteBucketsRow.laid w) (fun _ _ _ hh h => h.of_heap hh) own started (by kernel_rfl) Tryd.func3
    (ChangeSpec.witness_shaped (enc := enc) (C := Tryd.checked) (os := os) (X := fun w _ => laidMetH Tryd.prog Rows.inviteBucketsRow.laid w) false (World.laidAll Tryd.prog os Rows.inviteBucketsRow.laid) #[.agg (vals (List.replicate 32 0)), .int .i64 0] 8 (World.laidAll_os _ _ _)
      (World.shaped_of_ZipB (by kernel_rfl) (by kernel_rfl)) (by kernel_rfl) (by kernel_rfl) (by kernel_rfl)
      (by rw [MakeChecks.laidMetH_plain _ _ _ (by kernel_rfl)]; exact laidMet_laidAll _ (by kernel_rfl) (by kernel_rfl))) ?_
  intro W base args ds gs before hval0 hW _ hreach hL _
  have hval : ∀ (j : Nat) t v, Tryd.f3.params[j]? = some t → args[j]? = some v → Value.okWide Tryd.prog W .any base t v := hval0
  have hW' := hW
  obtain ⟨p, q, hA0, hV, rfl, hfz, hnd⟩ := hW
  have hA : DataW.TrodAll enc Tryd.prog W 0 (fun _ => true) true Tryd.f3.params.toList args.toList ds p := hA0
  rw [Tryd.params3] at hA hval
  obtain ⟨v0, vs0, d0, ds0, p0, q0, hargs, rfl, rfl, h0, r0⟩ := trodAll_cons hA
  obtain ⟨v1, vs1, d1, ds1, p1, q1, rfl, rfl, rfl, h1, r1⟩ := trodAll_cons r0
  obtain ⟨rfl, rfl, rfl⟩ := trodAll_nil r1
  obtain rfl : args = #[v0, v1] := by cases args; simp_all
  obtain ⟨rfl, rfl⟩ := trodVars_none hV
  have k0 := h0
  have lt0 : ∀ x ∈ p0, x.block < W.heap.size := by obtain ⟨m, hm⟩ := k0; exact DataW.trod_lt m _ _ _ hm
  obtain ⟨L0, rfl, hl0, hw0⟩ := open_row (n := 32) (k := .u8) Tryd.underlying23 Tryd.underlying5 (by kernel_rfl) (by kernel_rfl) (by omega) h0
  have k1 := h1
  have lt1 : ∀ x ∈ p1, x.block < W.heap.size := by obtain ⟨m, hm⟩ := k1; exact DataW.trod_lt m _ _ _ hm
  obtain ⟨k, rfl, rfl, rfl, w1⟩ := open_int Tryd.underlying3 (hval 1 3 v1 rfl rfl) h1
  clear hA0 hval0
  obtain ⟨hf, ht⟩ := vars_of_laid hL
  refine (inviteBuckets_walk L0 k W hl0 (byt_of_wf hw0) hf ht).mono fun e W' ⟨he, bel⟩ => ?_
  subst he
  exact ⟨_, rfl, _, _, _, [], _, [], hW', trodAll_mk1 (shut_bool Tryd.underlying4 _), (trodAll_cons_mk (Below.trod laidOut (by kernel_rfl) (of_decide_eq_true (by kernel_rfl)) k0 bel lt0) (trodAll_cons_mk (Below.trod laidOut (by kernel_rfl) (of_decide_eq_true (by kernel_rfl)) k1 bel lt1) trodAll_mk0)), rfl, bel.frame _, fun h => by cases h⟩

theorem inviteBuckets_row : Rows.InviteBucketsSaid :=
  OpenClaim.holds_of_wide 3 Tryd.f3 rfl rfl rfl rfl rfl rfl rfl ⟨rfl, rfl, rfl, rfl, rfl⟩ rfl rfl rfl rfl rfl (by kernel_rfl) Tryd.func3 (by kernel_rfl)
    (of_decide_eq_true (by kernel_rfl)) (by unfold Func.isWrapper; first | (rw [if_pos (by decide +kernel)]; kernel_rfl) | (rw [if_neg (by decide +kernel)]; exact ⟨rfl, rfl⟩))
    (fun os started H enc _ => inviteBuckets_lifted os started H enc)

theorem inviteBuckets_holds : Rows.InviteBucketsCardSaid :=
  Claim7.holds_tied_plain_at .later [] _ _ _ _ inviteBuckets_row (fun _ h => by cases h) (by kernel_rfl) (fun _ h => by cases h) inviteBuckets_row_tie rfl ⟨rfl, rfl⟩ (by kernel_rfl) rfl
    (fun f fn hf hfn => by
      obtain rfl : f = 3 := Option.some.inj ((show Tryd.prog.funcNamed "tryst/trystlaw22.InviteBuckets" = some 3 by kernel_rfl).symm.trans hf) |>.symm
      obtain rfl : fn = Tryd.f3 := (Option.some.inj (Tryd.func3.symm.trans hfn)).symm
      exact ⟨by kernel_rfl, fun j t ht => by
        rw [Tryd.params3] at ht
        match j, ht with
        | 0, ht => obtain rfl : 23 = t := by simpa using ht
                   exact (show Tryd.prog.wantsStandIn 23 = false by kernel_rfl)
        | 1, ht => obtain rfl : 3 = t := by simpa using ht
                   exact (show Tryd.prog.wantsStandIn 3 = false by kernel_rfl)
        | j + 2, ht => simp at ht⟩)
    (by kernel_rfl)
#print axioms inviteBuckets_holds
end Go.Proofs.YtemkpihfenokmaaDoor
