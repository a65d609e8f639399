/- codec.fits in all its ways. No condition. -/
import Derived.Test.YtmochmpamgfboaaDoorPutC
import Derived.Test.YtmochmpamgfboaaDoorPagC
namespace Go.Proofs.YtmochmpamgfboaaDoor
open Go.RowKit
/-- fits' answer. -/
def fitE (g : Bool) (n : Nat) (k : Int) : Int := if g = true then (if (n : Int) = k then 0 else 4) else 200
theorem fitE_bad {g : Bool} (h : ¬ g = true) (n : Nat) (k : Int) : fitE g n k = 200 := by rw [fitE, if_neg h]
theorem fitE_len {g : Bool} (h : g = true) {n : Nat} {k : Int} (hk : ¬ (n : Int) = k) : fitE g n k = 4 := by rw [fitE, if_pos h, if_neg hk]
theorem fitE_ok {g : Bool} (h : g = true) {n : Nat} {k : Int} (hk : (n : Int) = k) : fitE g n k = 0 := by rw [fitE, if_pos h, if_pos hk]
set_option maxHeartbeats 4000000 in
set_option maxRecDepth 100000 in
theorem fits_any (n0 n1 n2 n3 n4 n5 : Int) (p : Option Addr) (n c : Nat) (k : Int) (w : World) :
    Calls Tryd.prog 46 #[.agg #[.int .i64 n0, .int .i64 n1, .int .i64 n2, .int .i64 n3, .int .i64 n4, .int .i64 n5], .slice p n c, .int .i64 k] w (Gives (· = .int .i64 (fitE (good n0 n1 n2 n3 n4 n5) n k)) w) := by
  by_cases hg : good n0 n1 n2 n3 n4 n5 = true
  · by_cases hk : (n : Int) = k
    · rw [fitE_ok hg hk]
      subst hk
      exact fits_yes hg p n c w
    · rw [fitE_len hg hk]
      have HG := Lib.hid hg
      clear hg
      go_enter Tryd.func46, Tryd.ntmps46
      go_wp2_with (go_at_call 37; refine (check_yes HG.out _).mono ?_; rintro e w1 ⟨_, rfl, rfl, hb⟩)
      exact ⟨rfl, .int .i64 4, by kernel_rfl, _, rfl, rfl, below_call hb (by go_grown)⟩
  · rw [fitE_bad hg]
    have HG := Lib.hid hg
    clear hg
    go_enter Tryd.func46, Tryd.ntmps46
    go_wp2_with (go_at_call 37; refine (check_no HG.out _).mono ?_; rintro e w1 ⟨_, rfl, rfl, hb⟩)
    exact ⟨rfl, .int .i64 200, by kernel_rfl, _, rfl, rfl, below_call hb (by go_grown)⟩
theorem fitE_three (g : Bool) (n : Nat) (k : Int) : fitE g n k = 0 ∨ fitE g n k = 4 ∨ fitE g n k = 200 := by unfold fitE; split <;> (try split) <;> simp
theorem fitE_yes {g : Bool} {n : Nat} {k : Int} (h : fitE g n k = 0) : g = true ∧ (n : Int) = k := by
  unfold fitE at h
  split at h
  · rename_i h1
    split at h
    · rename_i h2
      exact ⟨h1, h2⟩
    · cases h
  · cases h
theorem fitE_four {g : Bool} {n : Nat} {k : Int} (h : fitE g n k = 4) : g = true ∧ ¬ (n : Int) = k := by
  unfold fitE at h
  split at h
  · rename_i h1
    split at h
    · cases h
    · rename_i h2
      exact ⟨h1, h2⟩
  · cases h
theorem fitE_not {g : Bool} {n : Nat} {k : Int} (h : fitE g n k = 200) : ¬ g = true := by
  unfold fitE at h
  split at h
  · split at h <;> cases h
  · rename_i h1
    exact h1
/-- What a call hands back: bytes in memory of its own and an error's number. -/
def Ans (w : World) (l : List Int) (k : Int) (e : Ending) (w' : World) : Prop := Below w.heap.size w w' ∧ ∃ v, e = .returned (.tuple #[v, .int .i64 k]) ∧ Bts w' w.heap.size v l
/-- A request of a talk round. -/
def talkQ (g : Bool) (n1 : Int) (d m : List Int) : List Int × Int := if g = true then (if (m.length : Int) = n1 then (d ++ m, 0) else ([], 4)) else ([], 200)
theorem talkQ_ok {g : Bool} {n : Nat} {n1 : Int} {d m : List Int} (h : fitE g n n1 = 0) (hn : m.length = n) : talkQ g n1 d m = (d ++ m, 0) := by
  rw [talkQ, if_pos (fitE_yes h).1, if_pos (by rw [hn]; exact (fitE_yes h).2)]
theorem talkQ_len {g : Bool} {n : Nat} {n1 : Int} {d m : List Int} (h : fitE g n n1 = 4) (hn : m.length = n) : talkQ g n1 d m = ([], 4) := by
  rw [talkQ, if_pos (fitE_four h).1, if_neg (by rw [hn]; exact (fitE_four h).2)]
theorem talkQ_bad {g : Bool} {n : Nat} {n1 : Int} {d m : List Int} (h : fitE g n n1 = 200) : talkQ g n1 d m = ([], 200) := by
  rw [talkQ, if_neg (fitE_not h)]
set_option maxHeartbeats 4000000 in
set_option maxRecDepth 100000 in
theorem talkRequest_any (n0 n1 n2 n3 n4 n5 : Int) (d : List Int) (hd : d.length = 16) (p : Option Addr) (n c : Nat) (m : List Int) (w : World) (hn : m.length = n) (h : BytesIn w p m) (hp : p = none → c = 0) :
    Calls Tryd.prog 9 #[.agg #[.int .i64 n0, .int .i64 n1, .int .i64 n2, .int .i64 n3, .int .i64 n4, .int .i64 n5], .agg (vals d), .slice p n c] w (Ans w (talkQ (good n0 n1 n2 n3 n4 n5) n1 d m).1 (talkQ (good n0 n1 n2 n3 n4 n5) n1 d m).2) := by
  have H := Lib.hid h
  have HN := Lib.hid hn
  have HP := Lib.hid hp
  obtain ⟨x0, x1, x2, x3, x4, x5, x6, x7, x8, x9, x10, x11, x12, x13, x14, x15, rfl⟩ := sixteen hd
  clear h hn hp hd
  simp only [vals, List.map_cons, List.map_nil]
  rcases fitE_three (good n0 n1 n2 n3 n4 n5) n n1 with hf | hf | hf
  · have HF := Lib.hid hf
    have hm : n ≤ 1099511627776 := by
      have h1 := fitE_yes hf
      have h2 := good_msg h1.1
      omega
    rw [talkQ_ok hf HN.out]
    clear hf
    go_enter Tryd.func9, Tryd.ntmps9
    go_wp2_with (go_at_call 46; refine (fits_any _ _ _ _ _ _ _ _ _ _ _).mono ?_; rintro e w1 ⟨_, rfl, rfl, hb⟩; rw [HF.out]; have hc := conf_cells (new2_0 ..) hb; have hd := conf_cells (new2_1 ..) hb; have HB := Lib.hid (show Below w.heap.size w w1 from below_call hb (by go_grown)); clear hb)
    refine (laid_any _ 2 2 [_, _] [some [x0, x1, x2, x3, x4, x5, x6, x7, x8, x9, x10, x11, x12, x13, x14, x15], some m] ([x0, x1, x2, x3, x4, x5, x6, x7, x8, x9, x10, x11, x12, x13, x14, x15] ++ m) _ (by simp [layAll]) rfl rfl (by decide) (lit_at w1 _ _) (fun k v o h1 h2 => ?_)).mono ?_
    · match k, h1, h2 with
      | 0, h1, h2 =>
        obtain rfl := Option.some.inj h1
        obtain rfl := Option.some.inj h2
        exact .drop [x0, x1, x2, x3, x4, x5, x6, x7, x8, x9, x10, x11, x12, x13, x14, x15] rfl
      | 1, h1, h2 =>
        obtain rfl := Option.some.inj h1
        obtain rfl := Option.some.inj h2
        exact .bts p n c m HN.out ((H.out.under HB.out (Nat.le_refl _)).under ((Below.refl _ _).alloc (Nat.le_refl _) _) (Nat.le_refl _)) HP.out hm
      | k + 2, h1, _ => cases h1
    rintro e w2 ⟨hb, v, rfl, hv⟩
    have HV := Lib.hid (hv.low (Nat.le_trans HB.out.size (Nat.le_trans (Nat.le_succ _) (Nat.le_of_eq (World.size_alloc _ _).symm))))
    have HB2 := Lib.hid (below_call hb (HB.out.alloc HB.out.size _))
    clear hb hv hc hd HB
    go_wp2
    exact ⟨rfl, .tuple #[v, .int .i64 0], by kernel_rfl, HB2.out, v, rfl, HV.out⟩
  · have HF := Lib.hid hf
    rw [talkQ_len hf HN.out]
    clear hf
    go_enter Tryd.func9, Tryd.ntmps9
    go_wp2_with (go_at_call 46; refine (fits_any _ _ _ _ _ _ _ _ _ _ _).mono ?_; rintro e w1 ⟨_, rfl, rfl, hb⟩; rw [HF.out]; have HB := Lib.hid (show Below w.heap.size w w1 from below_call hb (by go_grown)); clear hb)
    exact ⟨rfl, .tuple #[.slice none 0 0, .int .i64 4], by kernel_rfl, HB.out, _, rfl, bts_nil _ _⟩
  · have HF := Lib.hid hf
    rw [talkQ_bad hf]
    clear hf
    go_enter Tryd.func9, Tryd.ntmps9
    go_wp2_with (go_at_call 46; refine (fits_any _ _ _ _ _ _ _ _ _ _ _).mono ?_; rintro e w1 ⟨_, rfl, rfl, hb⟩; rw [HF.out]; have HB := Lib.hid (show Below w.heap.size w w1 from below_call hb (by go_grown)); clear hb)
    exact ⟨rfl, .tuple #[.slice none 0 0, .int .i64 200], by kernel_rfl, HB.out, _, rfl, bts_nil _ _⟩
end Go.Proofs.YtmochmpamgfboaaDoor
