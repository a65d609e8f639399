/- trystref00.Two, CopyBytes. Condition: at most 2^46 bytes. -/
import Derived.Test.YtemkpihfenokmaaDoorJoin
namespace Go.Proofs.YtemkpihfenokmaaDoor
open Go.RowKit
theorem lit_at (w : World) (cs : Array Value) (t : TypeId) (k : Nat) (v : Value) (h : cs.toList[k]? = some v) : ∃ a, some (⟨w.heap.size, 0, none⟩ : Addr) = some a ∧ a.block < (w.alloc (.cells cs t)).heap.size ∧ (w.alloc (.cells cs t)).cell? (a.add k) = some v :=
  ⟨_, rfl, by simp, by rw [add_lit, cell_of_row _ _ k _ _ _ (heap_alloc_new w _)]; simpa using h⟩
set_option maxHeartbeats 4000000 in
set_option maxRecDepth 100000 in
theorem two_any (p q : Option Addr) (l m : List Int) (n k c d : Nat) (w : World) (hn : l.length = n) (hk : m.length = k) (h : BytesIn w p l) (h2 : BytesIn w q m) (hp : p = none → c = 0) (hq : q = none → d = 0) (hm : n + k ≤ 70368744177664) :
    Calls Tryd.prog 9 #[.slice p n c, .slice q k d] w (NewV w (l ++ m)) := by
  subst hn hk
  have HJ := Lib.hid (join_any (some ⟨w.heap.size, 0, none⟩) 2 2 [(p, c, l), (q, d, m)] (w.alloc (.cells #[.slice p l.length c, .slice q m.length d] 30)) rfl
    ⟨fun k r hr => by
      obtain ⟨a, e, h3, h4⟩ := lit_at w #[.slice p l.length c, .slice q m.length d] 30 k (.slice r.1 r.2.2.length r.2.1) (by
        match k, hr with
        | 0, hr => obtain rfl := Option.some.inj hr; rfl
        | 1, hr => obtain rfl := Option.some.inj hr; rfl)
      exact ⟨a, e, h3, h4⟩, fun r hr => by
      simp only [List.mem_cons, List.not_mem_nil, or_false] at hr
      rcases hr with rfl | rfl
      · exact ⟨h.keep ((Below.refl _ _).alloc (Nat.le_refl _) _), hp⟩
      · exact ⟨h2.keep ((Below.refl _ _).alloc (Nat.le_refl _) _), hq⟩⟩ (by decide) (by simp [flat]; omega))
  have HF := Lib.hid (show flat [(p, c, l), (q, d, m)] = l ++ m by simp [flat])
  clear h h2 hp hq
  go_enter Tryd.func9, Tryd.ntmps9
  go_wp2_with (go_at_call 20; refine HJ.out.mono ?_; rintro e w3 ⟨hb3, v3, rfl, hv3⟩; rw [HF.out] at hv3; have HB := Lib.hid (below_call hb3 ((Below.refl _ _).alloc (Nat.le_refl _) _)); have HV := Lib.hid (hv3.low (Nat.le_trans (Nat.le_succ w.heap.size) (Nat.le_of_eq (World.size_alloc _ _).symm))); clear hb3 hv3)
  exact ⟨rfl, v3, by kernel_rfl, HB.out, v3, rfl, HV.out⟩
end Go.Proofs.YtemkpihfenokmaaDoor
