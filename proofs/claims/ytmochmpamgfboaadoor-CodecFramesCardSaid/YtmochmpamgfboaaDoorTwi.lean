/- trystlaw20.twice: two answers of one call, in blocks of their own. Conditions: lengths below 2^40. -/
import Derived.Test.YtmochmpamgfboaaDoorApx
import Derived.Test.YtmochmpamgfboaaDoorBytK
namespace Go.Proofs.YtmochmpamgfboaaDoor
open Go.RowKit
def two {α : Type} (x y : α) : Nat → α
  | 0 => x
  | _ => y
set_option maxHeartbeats 4000000 in
set_option maxRecDepth 100000 in
theorem twice_any (b w : World) (va vb : Value) (l lm : List Int) (pw : Option Addr) (nw cw g : Nat) (t : TypeId) (p : Option Addr) (n c : Nat) (hb : Below b.heap.size b w) (ha : BtsM w b.heap.size va l) (hb2 : BtsM w b.heap.size vb l) (hne : va.ownBlock = none ∨ va.ownBlock ≠ vb.ownBlock)
    (hl : l.length ≤ 1099511627776) (hlw : l.length = nw) (hw : BytesIn w pw l) (hn : lm.length = n) (hg : b.heap[g]? = some (.cells (vals (spareL lm)) t (0, 0))) (hm : BytesIn b p lm) (hnm : n ≤ 140737488355328) :
    Calls Tryd.prog 11 #[va, vb, .slice pw nw cw, .slice (some ⟨g, 0, none⟩) n (n + 80), .slice p n c] w (fun e w' => e = .returned (.bool true) ∧ Below b.heap.size b w') := by
  obtain ⟨pa, ca, rfl, bia, _, _, _⟩ := ha.open
  obtain ⟨qb, cb, rfl, bib, _, _, _⟩ := hb2.open
  have HEA := Lib.hid (show ∀ w', Below w.heap.size w w' → Calls Tryd.prog 21 #[.slice pa l.length ca, .slice pw nw cw] w' (Gives (· = .bool true) w') from fun w' h => by
    have h1 := eqBytes_any pa pw l l l.length nw ca cw w' rfl hlw (bia.keep h) (hw.keep h) (by omega)
    rwa [decide_eq_true rfl] at h1)
  have HEB := Lib.hid (show ∀ w', Below w.heap.size w w' → Calls Tryd.prog 21 #[.slice qb l.length cb, .slice pw nw cw] w' (Gives (· = .bool true) w') from fun w' h => by
    have h1 := eqBytes_any qb pw l l l.length nw cb cw w' rfl hlw (bib.keep h) (hw.keep h) (by omega)
    rwa [decide_eq_true rfl] at h1)
  have HK := Lib.hid (show ∀ w', Below b.heap.size b w' → Calls Tryd.prog 27 #[.slice (some ⟨g, 0, none⟩) n (n + 80), .slice p n c] w' (Gives (· = .bool true) w') from fun w' h =>
    kept_any g t p lm n c w' hn (row_call h hg) (hm.under h (Nat.le_refl _)) hnm)
  have HAP := Lib.hid (show ∀ w', Below w.heap.size w w' → Calls Tryd.prog 23 #[.slice (some ⟨w'.heap.size, 0, none⟩) 2 2] (w'.alloc (.cells #[.slice pa l.length ca, .slice qb l.length cb] 26)) (fun e w2 => e = .returned (.bool true) ∧ Below b.heap.size b w2) from fun w' h => by
    have lta : ∀ x, pb pa = some x → x < w.heap.size := fun x e => (ha.lt x (by rw [pb_own]; exact e)).2
    have ltb : ∀ x, pb qb = some x → x < w.heap.size := fun x e => (hb2.lt x (by rw [pb_own]; exact e)).2
    have hsz := h.size
    refine apart_any b _ _ 2 2 (w'.alloc (.cells #[.slice pa l.length ca, .slice qb l.length cb] 26)).heap.size ⟨2, two pa qb, fun _ => l.length, two ca cb⟩ rfl ⟨(show 2 ≤ 1000 by decide), fun j hj => hl, fun i j hi hj hij => ?_⟩ ((below_call h hb).alloc (Nat.le_trans hb.size hsz) _) (Nat.le_refl _) (fun k hk => ?_) (fun j hj => ⟨l, rfl, ?_⟩) (fun j hj x e => ?_)
    · have hne' : pb pa = none ∨ pb pa ≠ pb qb := by rw [pb_own, pb_own] at hne; exact hne
      rcases (show i = 0 ∧ j = 1 ∨ i = 1 ∧ j = 0 by simp only at hi hj; omega) with ⟨rfl, rfl⟩ | ⟨rfl, rfl⟩
      · exact hne'
      · rcases hne' with h1 | h1
        · show pb qb = none ∨ pb qb ≠ pb pa
          rw [h1]
          cases pb qb <;> simp
        · exact .inr fun e => h1 e.symm
    · refine ⟨_, rfl, by simp, Nat.le_refl _, ?_, fun j hj e => ?_⟩
      · rw [add_lit, cell_of_row _ _ k _ _ _ (heap_alloc_new w' _)]
        rcases (show k = 0 ∨ k = 1 by simp only at hk; omega) with rfl | rfl <;> rfl
      · rcases (show j = 0 ∨ j = 1 by simp only at hj; omega) with rfl | rfl
        · have h1 := lta _ e; simp only at h1; omega
        · have h1 := ltb _ e; simp only at h1; omega
    · rcases (show j = 0 ∨ j = 1 by simp only at hj; omega) with rfl | rfl
      · exact (ha.under h).alloc _
      · exact (hb2.under h).alloc _
    · rw [World.size_alloc]
      rcases (show j = 0 ∨ j = 1 by simp only at hj; omega) with rfl | rfl
      · have := lta _ e; omega
      · have := ltb _ e; omega)
  have HBW := Lib.hid hb
  have HB := Lib.hid (Below.refl w.heap.size w)
  clear hb ha hb2 hne hlw hw hn hg hm bia bib
  go_enter Tryd.func11, Tryd.ntmps11
  go_wp2_with first
    | (go_at_call 21; refine (HEA.out _ HB.out).mono ?_; rintro e w1 ⟨_, rfl, rfl, hb⟩; replace HB := Lib.hid (below_call hb HB.out); clear hb HEA)
    | (go_at_call 21; refine (HEB.out _ HB.out).mono ?_; rintro e w1 ⟨_, rfl, rfl, hb⟩; replace HB := Lib.hid (below_call hb HB.out); clear hb)
    | (go_at_call 27; refine (HK.out _ (below_call HB.out HBW.out)).mono ?_; rintro e w1 ⟨_, rfl, rfl, hb⟩; replace HB := Lib.hid (below_call hb HB.out); clear hb)
    | (go_at_call 23; refine (HAP.out _ HB.out).mono ?_; rintro e w1 ⟨rfl, hb⟩; clear HB; have HC := Lib.hid hb; clear hb)
    | (go_at_call 27; refine (HK.out _ HC.out).mono ?_; rintro e w1 ⟨_, rfl, rfl, hb⟩; replace HC := Lib.hid (below_call hb HC.out); clear hb)
  exact ⟨rfl, .bool true, by kernel_rfl, rfl, HC.out⟩
end Go.Proofs.YtmochmpamgfboaaDoor
