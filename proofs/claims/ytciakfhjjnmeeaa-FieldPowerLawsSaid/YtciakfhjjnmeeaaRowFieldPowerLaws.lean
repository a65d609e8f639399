/- The law FieldPowerLaws of package trystlaw08: for every input the call returns true, and each argument reads afterwards as it read before. No condition. -/
import Derived.Test.YtciakfhjjnmeeaaFieldY
import Derived.Test.YtciakfhjjnmeeaaOpen2
import Derived.Test.YtciakfhjjnmeeaaLeav
namespace Go.Proofs.Ytciakfhjjnmeeaa
open Go.ChangeShapes Go.WideShapes Go.ChangeAt Go.RowKit
open Go.ChangeMaps (open_string shut_string)

set_option maxRecDepth 100000 in
theorem fieldPowerLaws_lifted (os : Os) (started : os.Started) (H : Type) (enc : TypeId × Value → H) :
    ReturnsInHanded {} Try.checked os 8 .any (Rows.fieldPowerLawsSpec.pre6 enc Try.prog Try.f8 Rows.fieldPowerLawsRow.domain false) (Rows.fieldPowerLawsSpec.post enc Try.prog Try.f8 false true false false) := by
  refine returnsInHanded_of_change (C := Try.checked) own started (by kernel_rfl) Try.func8
    (ChangeSpec.witness6 (enc := enc) (C := Try.checked) false ⟨#[], #[.agg ((List.replicate 64 (Value.int .u8 0) ++ [Value.int .u32 0, Value.int .u32 0]).toArray)], []⟩ 8 (by kernel_rfl) (by kernel_rfl) (by kernel_rfl) (by kernel_rfl)) ?_
  intro W base args ds gs before hval0 hW hcnd _
  have hval : ∀ (j : Nat) t v, Try.f8.params[j]? = some t → args[j]? = some v → Value.okWide Try.prog W .any base t v := hval0
  have hW' := hW
  obtain ⟨p, q, hA0, hV, rfl, hfz, hnd⟩ := hW
  have hA : DataW.TrodAll enc Try.prog W 0 (fun _ => true) true Try.f8.params.toList args.toList ds p := hA0
  rw [Try.params8] at hA hval
  obtain ⟨v0, vs0, d0, ds0, p0, q0, hargs, rfl, rfl, h0, r0⟩ := trodAll_cons hA
  obtain ⟨rfl, rfl, rfl⟩ := trodAll_nil r0
  obtain rfl : args = #[v0] := by cases args; simp_all
  obtain ⟨rfl, rfl⟩ := trodVars_none hV
  have k0 := h0
  have lt0 : ∀ x ∈ p0, x.block < W.heap.size := by obtain ⟨m, hm⟩ := k0; exact DataW.trod_lt m _ _ _ hm
  obtain ⟨La0, Lb0, mi0, ni0, rfl, hla0, hwa0, hlb0, hwb0, wm0, wn0⟩ := open_powers h0
  clear hA0 hval0
  have bm0 := bounds_u32 wm0
  have bn0 := bounds_u32 wn0
  obtain ⟨m0, rfl⟩ := Int.eq_ofNat_of_zero_le bm0.1
  obtain ⟨n0, rfl⟩ := Int.eq_ofNat_of_zero_le bn0.1
  refine (fieldPowerLaws_walk La0 Lb0 m0 n0 W hla0 (byt_of_wf hwa0) hlb0 (byt_of_wf hwb0) (by omega) (by omega)).mono fun e W' ⟨he, bel⟩ => ?_
  subst he
  exact ⟨_, rfl, _, _, _, [], _, [], hW', trodAll_mk1 (shut_bool Try.underlying4 _), (trodAll_cons_mk (Below.trod laidOut (by kernel_rfl) (of_decide_eq_true (by kernel_rfl)) k0 bel lt0) trodAll_mk0), rfl, bel.frame _, fun h => by cases h⟩

theorem fieldPowerLaws_holds : Rows.FieldPowerLawsSaid :=
  OpenClaim.holds_of_wide_leaving 8 Try.f8 rfl rfl rfl rfl rfl rfl rfl ⟨rfl, rfl, rfl, rfl, rfl⟩ rfl rfl rfl rfl rfl (by kernel_rfl) Try.func8 (by kernel_rfl)
    (of_decide_eq_true (by kernel_rfl)) (by unfold Func.isWrapper; first | (rw [if_pos (by decide +kernel)]; kernel_rfl) | (rw [if_neg (by decide +kernel)]; exact ⟨rfl, rfl⟩))
    (fun os started H enc _ => leaving_of_handed (fieldPowerLaws_lifted os started H enc))

#print axioms fieldPowerLaws_holds
end Go.Proofs.Ytciakfhjjnmeeaa
