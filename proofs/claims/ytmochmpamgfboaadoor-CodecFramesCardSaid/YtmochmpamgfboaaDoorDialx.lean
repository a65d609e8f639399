/- codec.laid where write answers an error; DialRequest, of the program and of the reference. Condition: the program's variable errors.errorType is as its text lays it. DialRequest, of the program and of the reference. Condition: the program's variable errors.errorType is as its text lays it. A reader's take of k bytes, and Bytes. Condition: so many are left. trystref20.ParseDial; Ack, of the program and of the reference. Condition: bytes. -/
import Derived.Test.YtmochmpamgfboaaDoorAsHit
import Derived.Test.YtmochmpamgfboaaDoorTalkE
import Derived.Test.YtmochmpamgfboaaDoorPutR
import Derived.Test.YtmochmpamgfboaaDoorApx
import Derived.Lib.SlBytesConst
namespace Go.Proofs.YtmochmpamgfboaaDoor
open Go.RowKit
/-- The listed variable's cell: the type of errors. -/
def Handle (w : World) : Prop := w.cell? ⟨0, 0, none⟩ = some (.iface 120 (.agg #[.pointer (some ⟨1, 92, none⟩)]))
theorem Handle.pos {w : World} (h : Handle w) : 0 < w.heap.size := by
  rcases Nat.eq_zero_or_pos w.heap.size with h0 | h1
  · simp [Handle, World.cell?, h0] at h
  · exact h1
theorem Handle.under {w w' : World} {B : Nat} (h : Handle w) (hb : Below B w w') (hB : 0 < B) : Handle w' := by
  rw [Handle, ← h]
  exact World.cell?_of_block (hb.block 0 hB)
theorem Handle.keep {w w' : World} (h : Handle w) (hb : Below w.heap.size w w') : Handle w' := h.under hb h.pos
theorem as_hit2 (t : Addr) (k : Int) (old : Value) (w : World) (hg : Handle w) (ht0 : w.cell? t = some old) (hf0 : w.frozen? t = false) :
    Calls Tryd.prog 68 #[.iface 30 (.int .i64 k), .iface 96 (.pointer (some t))] w fun ev w' => ev = .returned (.bool true) ∧ w'.cell? t = some (.int .i64 k) ∧ ∃ w1, Below w.heap.size w w1 ∧ w' = w1.setCell t (.int .i64 k) := by
  refine (as_hit t k old w hg ht0 hf0).mono fun ev w' ⟨he, hw⟩ => ⟨he, ?_, _, ?_, hw⟩
  · rw [hw]
    refine World.cell?_setCell_same _ t _ (u := old) ?_
    rw [← ht0]
    have htl : t.block < w.heap.size := by
      rcases Nat.lt_or_ge t.block w.heap.size with h | h
      · exact h
      · simp [World.cell?, Array.getElem?_eq_none h] at ht0
    rw [World.cell?_alloc_lt _ _ t (by simp; omega), World.cell?_alloc_lt _ _ t (by simp; omega), World.cell?_alloc_lt _ _ t (by simp; omega), World.cell?_alloc_lt _ _ t htl]
  · exact ((((Below.refl _ _).alloc (Nat.le_refl _) _).alloc (by simp) _).alloc (by simp; omega) _).alloc (by simp; omega) _
theorem cell_new (w : World) (v : Value) (t : TypeId) : (w.alloc (.cells #[v] t)).cell? ⟨w.heap.size, 0, none⟩ = some v := cell_of_one (heap_alloc_new w _)
theorem tErr : CellT Tryd.prog 30 := ⟨_, Tryd.underlying30, rfl⟩
set_option maxHeartbeats 4000000 in
set_option maxRecDepth 100000 in
theorem laid_none (p : Option Addr) (n c : Nat) (vs : List Value) (os : List (Option (List Int))) (w : World) (hh : Handle w) (hl : layAll os = none) (hn : vs.length = n) (ho : os.length = n) (h8 : n ≤ 8)
    (hv : ∀ (k : Nat) v, vs[k]? = some v → ∃ a, p = some a ∧ a.block < w.heap.size ∧ w.cell? (a.add k) = some v) (hp : ∀ (k : Nat) v o, vs[k]? = some v → os[k]? = some o → PartIn w v o) :
    Calls Tryd.prog 47 #[.slice p n c] w (Ans w [] 4) := by
  have HW := Lib.hid (write_any p n c vs os w hn ho h8 hv hp)
  rw [hl] at HW
  have HH := Lib.hid hh
  clear hl hn ho hv hp hh
  go_enter Tryd.func47, Tryd.ntmps47
  go_wp2_with first
    | (go_at_call 67; refine HW.out.mono ?_; rintro e w1 ⟨hb, rfl⟩; have HB := Lib.hid hb; clear hb)
    | (go_at_call 68; refine (as_hit2 ⟨w1.heap.size, 0, none⟩ 4 (.int .i64 0) _ ((HH.out.keep HB.out).keep ((Below.refl _ _).alloc (Nat.le_refl _) _)) (cell_new _ _ _) (free_of_one (heap_alloc_new w1 _))).mono ?_; rintro e w2 ⟨rfl, hc2, w3, hb3, hw2⟩; have HC := Lib.hid hc2; have HB2 := Lib.hid (show Below w.heap.size w w2 from hw2 ▸ Below.setCell (below_call hb3 (HB.out.alloc HB.out.size _)) HB.out.size _); clear hw2 hc2 hb3)
  have HCL := Lib.hid (show ∀ w', Below w2.heap.size w2 w' → w'.cell? ⟨w1.heap.size, 0, none⟩ = some (.int .i64 4) from fun w' hb => by
    rw [← HC.out]
    refine World.cell?_of_block (hb.block _ ?_)
    have := HC.out
    rcases Nat.lt_or_ge w1.heap.size w2.heap.size with h | h
    · exact h
    · simp [World.cell?, Array.getElem?_eq_none h] at this)
  have hS := Own.start w2
  obtain ⟨M, hM⟩ : ∃ M, M = w2.heap.size := ⟨_, rfl⟩
  refine hide_frame fun t0 HT => ?_
  have HS : t0.size = 17 := by rw [HT]; rfl
  have h6 : t0[6]? = some (.pointer (some ⟨w1.heap.size, 0, none⟩)) := by rw [HT]; rfl
  clear HT
  refine wp_region_all 2 (fun i => [15, 2, 3].getD i 0) (fun i => [(· = .int .i64 4), (· = .slice none 0 0), (· = .int .i64 4)].getD i (fun _ => True)) (fun w' => Own w2 [] w' ∧ M ≤ w'.heap.size)
    (by kernel_rfl) (by kernel_rfl) (by kernel_rfl) (slots_apart (by kernel_rfl)) (slots_lie (by rw [HS]; kernel_rfl)) ⟨hS.drew, Nat.le_of_eq hM⟩ (fun w1 w2 h b => ⟨h.1.keep b, Nat.le_trans h.2 b.size⟩) ?_ ?_
  · clear hS
    intro i o hi ho
    have hc : i = 0 ∨ i = 1 ∨ i = 2 := by omega
    rcases hc with rfl | rfl | rfl
    · obtain rfl := Option.some.inj ho
      refine ⟨rfl, fun a w' hS hold hin K hK => ?_⟩
      refine if_always rfl ?_
      exact op_cell tErr _ ⟨w1.heap.size, 0, none⟩ rfl rfl (eval_tmp ((hold 6 (slots_not (by kernel_rfl))).trans h6)) (.int .i64 4) (HCL.out _ hS.1.1) hK
    · obtain rfl := Option.some.inj ho
      refine ⟨rfl, fun a w' hS hold hin K hK => ?_⟩
      refine if_always rfl ?_
      exact op_assign (V := (· = .slice none 0 0)) _ _ rfl rfl rfl rfl hK
    · obtain rfl := Option.some.inj ho
      refine ⟨rfl, fun a w' hS hold hin K hK => ?_⟩
      obtain ⟨y0, x0, rfl⟩ := hin 0 rfl (by omega)
      refine if_always rfl ?_
      exact op_assign (V := (· = .int .i64 4)) _ _ rfl rfl (eval_tmp x0) rfl hK
  clear hS
  intro t1 V1 hs hold hout hS
  replace HS := hs.trans HS
  replace hS := hS.1
  obtain ⟨_, q2, rfl⟩ : ∃ x, t1[2]? = some x ∧ x = (.slice none 0 0 : Value) := hout 1 (by omega)
  obtain ⟨_, q3, rfl⟩ : ∃ x, t1[3]? = some x ∧ x = (.int .i64 4 : Value) := hout 2 (by omega)
  replace h6 := (hold 6 (slots_not (by kernel_rfl))).trans h6
  clear hold hout hs
  obtain ⟨f, e0, hf⟩ := wash HS
  have f6 := hf 6 _ h6
  have f2 := hf 2 _ q2
  have f3 := hf 3 _ q3
  clear hf
  rw [e0.trans (show _ = #[f 0, f 1, f 2, f 3, f 4, f 5, f 6, f 7, f 8, f 9, f 10, f 11, f 12, f 13, f 14, f 15, f 16] from by kernel_rfl), f6, f2, f3]
  clear f6 f2 f3
  clear e0
  try dsimp only
  clear h6 q2 q3 hM HS t1 t0 M
  have HB3 := Lib.hid (below_call hS.1 HB2.out)
  clear hS
  go_wp2
  exact ⟨rfl, .tuple #[.slice none 0 0, .int .i64 4], by kernel_rfl, HB3.out, _, rfl, bts_nil _ _⟩
/-- A request of a dial round. -/
def dialQ (g : Bool) (n2 k : Int) (m : List Int) : List Int × Int := if g = true then (if 0 ≤ k ∧ k < n2 then (if m.length = 88 then (le4 k ++ m, 0) else ([], 4)) else ([], 201)) else ([], 200)
theorem good_buckets {n0 n1 n2 n3 n4 n5 : Int} (h : good n0 n1 n2 n3 n4 n5 = true) : 2 ≤ n2 ∧ n2 ≤ 64 := by
  simp only [good, decide_eq_true_eq] at h
  omega
set_option maxHeartbeats 4000000 in
set_option maxRecDepth 100000 in
theorem dialRequest_any (n0 n1 n2 n3 n4 n5 k : Int) (p : Option Addr) (n c : Nat) (m : List Int) (w : World) (hh : Handle w) (hn : m.length = n) (h : BytesIn w p m) (hp : p = none → c = 0) :
    Calls Tryd.prog 29 #[.agg #[.int .i64 n0, .int .i64 n1, .int .i64 n2, .int .i64 n3, .int .i64 n4, .int .i64 n5], .int .i64 k, .slice p n c] w (Ans w (dialQ (good n0 n1 n2 n3 n4 n5) n2 k m).1 (dialQ (good n0 n1 n2 n3 n4 n5) n2 k m).2) := by
  have H := Lib.hid h
  have HN := Lib.hid hn
  have HP := Lib.hid hp
  have HH := Lib.hid hh
  clear h hn hp hh
  by_cases hg : good n0 n1 n2 n3 n4 n5 = true
  · have hbk := good_buckets hg
    have HG := Lib.hid hg
    rw [dialQ, if_pos hg]
    clear hg
    by_cases hk : 0 ≤ k ∧ k < n2
    · rw [if_pos hk]
      have hk0 : ¬ k < 0 := by omega
      have hk1 : ¬ n2 ≤ k := by omega
      have hk2 : k % 4294967296 = k := by omega
      have HK2 := Lib.hid hk2
      obtain ⟨R, hR⟩ : ∃ R, R = (if m.length = 88 then (le4 k ++ m, (0 : Int)) else ([], 4)) := ⟨_, rfl⟩
      rw [← hR]
      have HR := Lib.hid hR
      clear hR hk2
      go_enter Tryd.func29, Tryd.ntmps29
      go_wp2_with (go_at_call 37; refine (check_yes HG.out _).mono ?_; rintro e w1 ⟨_, rfl, rfl, hb⟩; have hc := conf_cells (heap_alloc_new w _) hb; have HB := Lib.hid (show Below w.heap.size w w1 from below_call hb (by go_grown)); clear hb)
      have HB1 := Lib.hid (HB.out.alloc HB.out.size (.cells #[.slice p n c] 26))
      have HRI := Lib.hid (show RowsIn (w1.alloc (.cells #[.slice p n c] 26)) (some ⟨w1.heap.size, 0, none⟩) [(p, c, m)] from ⟨fun j r hr => by
        match j, hr with
        | 0, hr =>
          obtain rfl := Option.some.inj hr
          exact ⟨_, rfl, by simp, by rw [add_lit, cell_of_row _ _ 0 _ _ _ (heap_alloc_new w1 _), HN.out]; rfl⟩, fun r hr => by
        obtain rfl := List.mem_singleton.1 hr
        exact ⟨H.out.under HB1.out (Nat.le_refl _), HP.out⟩⟩)
      have HPT := Lib.hid (show ∀ (j : Nat) (v : Value) (o : Option (List Int)), [Value.iface 3 (.int .i64 k), .iface 40 (.slice (some ⟨w1.heap.size, 0, none⟩) 1 1)][j]? = some v → [some (le4 k), (if m.length = 88 then some m else none)][j]? = some o → PartIn ((w1.alloc (.cells #[.slice p n c] 26)).alloc (.cells #[.iface 3 (.int .i64 k), .iface 40 (.slice (some ⟨w1.heap.size, 0, none⟩) 1 1)] 20)) v o from fun j v o h1 h2 => by
        match j, h1, h2 with
        | 0, h1, h2 =>
          obtain rfl := Option.some.inj h1
          obtain rfl := Option.some.inj h2
          have h3 := PartIn.num (w := ((w1.alloc (.cells #[.slice p n c] 26)).alloc (.cells #[.iface 3 (.int .i64 k), .iface 40 (.slice (some ⟨w1.heap.size, 0, none⟩) 1 1)] 20))) k
          rwa [HK2.out] at h3
        | 1, h1, h2 =>
          obtain rfl := Option.some.inj h1
          obtain rfl := Option.some.inj h2
          have h3 := PartIn.rows (some ⟨w1.heap.size, 0, none⟩) 1 1 [(p, c, m)] rfl (HRI.out.under ((Below.refl _ _).alloc (Nat.le_refl _) (.cells #[.iface 3 (.int .i64 k), .iface 40 (.slice (some ⟨w1.heap.size, 0, none⟩) 1 1)] 20)) (Nat.le_refl _)) (by decide)
          simpa using h3
        | j + 2, h1, _ => cases h1)
      have HLV := Lib.hid (show ∀ (j : Nat) (v : Value), [Value.iface 3 (.int .i64 k), .iface 40 (.slice (some ⟨w1.heap.size, 0, none⟩) 1 1)][j]? = some v → ∃ a, some (⟨w1.heap.size + 1, 0, none⟩ : Addr) = some a ∧ a.block < ((w1.alloc (.cells #[.slice p n c] 26)).alloc (.cells #[.iface 3 (.int .i64 k), .iface 40 (.slice (some ⟨w1.heap.size, 0, none⟩) 1 1)] 20)).heap.size ∧ ((w1.alloc (.cells #[.slice p n c] 26)).alloc (.cells #[.iface 3 (.int .i64 k), .iface 40 (.slice (some ⟨w1.heap.size, 0, none⟩) 1 1)] 20)).cell? (a.add j) = some v from fun j v h => by
        have h1 := lit_at (w1.alloc (.cells #[.slice p n c] 26)) #[.iface 3 (.int .i64 k), .iface 40 (.slice (some ⟨w1.heap.size, 0, none⟩) 1 1)] 20 j v h
        rw [World.size_alloc w1] at h1
        exact h1)
      by_cases h88 : m.length = 88
      · have hRe := HR.out
        rw [if_pos h88] at hRe
        subst hRe
        refine (laid_any (some ⟨w1.heap.size + 1, 0, none⟩) 2 2 [Value.iface 3 (.int .i64 k), .iface 40 (.slice (some ⟨w1.heap.size, 0, none⟩) 1 1)] [some (le4 k), (if m.length = 88 then some m else none)] (le4 k ++ m) _ (by rw [if_pos h88]; simp [layAll]) rfl rfl (by decide) HLV.out HPT.out).mono ?_
        rintro e w2 ⟨hb, v, rfl, hv⟩
        have HB2 := Lib.hid (below_call hb (HB1.out.alloc HB1.out.size _))
        have HV := Lib.hid (hv.low (HB1.out.alloc HB1.out.size _).size)
        clear hb hv hc HB HB1 HRI HPT
        go_wp2
        exact ⟨rfl, .tuple #[v, .int .i64 0], by kernel_rfl, HB2.out, v, rfl, HV.out⟩
      · have hRe := HR.out
        rw [if_neg h88] at hRe
        subst hRe
        refine (laid_none (some ⟨w1.heap.size + 1, 0, none⟩) 2 2 [Value.iface 3 (.int .i64 k), .iface 40 (.slice (some ⟨w1.heap.size, 0, none⟩) 1 1)] [some (le4 k), (if m.length = 88 then some m else none)] _ (HH.out.under (HB1.out.alloc HB1.out.size _) HH.out.pos) (by rw [if_neg h88]; simp [layAll]) rfl rfl (by decide) HLV.out HPT.out).mono ?_
        rintro e w2 ⟨hb, v, rfl, hv⟩
        have HB2 := Lib.hid (below_call hb (HB1.out.alloc HB1.out.size _))
        have HV := Lib.hid (hv.low (HB1.out.alloc HB1.out.size _).size)
        clear hb hv hc HB HB1 HRI HPT
        go_wp2
        exact ⟨rfl, .tuple #[v, .int .i64 4], by kernel_rfl, HB2.out, v, rfl, HV.out⟩
    · rw [if_neg hk]
      go_enter Tryd.func29, Tryd.ntmps29
      by_cases hk0 : k < 0
      · clear hk
        go_wp2_with (go_at_call 37; refine (check_yes HG.out _).mono ?_; rintro e w1 ⟨_, rfl, rfl, hb⟩; have hc := conf_cells (heap_alloc_new w _) hb; have HB := Lib.hid (show Below w.heap.size w w1 from below_call hb (by go_grown)); clear hb)
        exact ⟨rfl, .tuple #[.slice none 0 0, .int .i64 201], by kernel_rfl, HB.out, _, rfl, bts_nil _ _⟩
      · have hk1 : n2 ≤ k := by omega
        clear hk
        go_wp2_with (go_at_call 37; refine (check_yes HG.out _).mono ?_; rintro e w1 ⟨_, rfl, rfl, hb⟩; have hc := conf_cells (heap_alloc_new w _) hb; have HB := Lib.hid (show Below w.heap.size w w1 from below_call hb (by go_grown)); clear hb)
        exact ⟨rfl, .tuple #[.slice none 0 0, .int .i64 201], by kernel_rfl, HB.out, _, rfl, bts_nil _ _⟩
  · rw [dialQ, if_neg hg]
    have HG := Lib.hid hg
    clear hg
    go_enter Tryd.func29, Tryd.ntmps29
    go_wp2_with (go_at_call 37; refine (check_no HG.out _).mono ?_; rintro e w1 ⟨_, rfl, rfl, hb⟩; have HB := Lib.hid (show Below w.heap.size w w1 from below_call hb (by go_grown)); clear hb)
    exact ⟨rfl, .tuple #[.slice none 0 0, .int .i64 200], by kernel_rfl, HB.out, _, rfl, bts_nil _ _⟩
set_option maxHeartbeats 4000000 in
set_option maxRecDepth 100000 in
theorem dialRequestR_any (n0 n1 n2 n3 n4 n5 k : Int) (p : Option Addr) (n c : Nat) (m : List Int) (w : World) (hn : m.length = n) (h : BytesIn w p m) (hp : p = none → c = 0) :
    Calls Tryd.prog 30 #[.agg #[.int .i64 n0, .int .i64 n1, .int .i64 n2, .int .i64 n3, .int .i64 n4, .int .i64 n5], .int .i64 k, .slice p n c] w (Ans w (dialQ (good n0 n1 n2 n3 n4 n5) n2 k m).1 (dialQ (good n0 n1 n2 n3 n4 n5) n2 k m).2) := by
  have H := Lib.hid h
  have HN := Lib.hid hn
  have HP := Lib.hid hp
  clear h hn hp
  by_cases hg : good n0 n1 n2 n3 n4 n5 = true
  · have hbk := good_buckets hg
    have HG := Lib.hid hg
    rw [dialQ, if_pos hg]
    clear hg
    by_cases hk : 0 ≤ k ∧ k < n2
    · rw [if_pos hk, HN.out]
      have hk0 : ¬ k < 0 := by omega
      have hk1 : ¬ n2 ≤ k := by omega
      by_cases h88 : n = 88
      · subst h88
        rw [if_pos rfl]
        go_enter Tryd.func30, Tryd.ntmps30
        go_wp2_with first
          | (go_at_call 38; refine (checkR_yes HG.out _).mono ?_; rintro e w1 ⟨_, rfl, rfl, hb⟩; have hc := conf_cells (heap_alloc_new w _) hb; have HB := Lib.hid (show Below w.heap.size w w1 from below_call hb (by go_grown)); clear hb)
          | (go_at_call 50; refine (little_any _ _).mono ?_; rintro e w2 ⟨hb, v2, rfl, hv2⟩; obtain ⟨p2, c2, rfl, hb2, hp2, _⟩ := hv2.open; rw [le4_len]; have HBI := Lib.hid hb2; have HPI := Lib.hid hp2; have HB2 := Lib.hid (below_call hb HB.out); clear hb hv2 hb2 hp2 hc)
          | (go_at_call 48; refine (two_any p2 p _ m 4 88 c2 c _ (le4_len _) HN.out HBI.out (H.out.under HB2.out (Nat.le_refl _)) HPI.out HP.out (by omega)).mono ?_; rintro e w3 ⟨hb3, v3, rfl, hv3⟩; have HB3 := Lib.hid (below_call hb3 HB2.out); have HV := Lib.hid (hv3.low HB2.out.size); clear hb3 hv3)
        exact ⟨rfl, .tuple #[v3, .int .i64 0], by kernel_rfl, HB3.out, v3, rfl, by have := HV.out; simpa only [le4_u64, le4_64] using this⟩
      · rw [if_neg h88]
        have h88' : ¬ (n : Int) = 88 := by omega
        go_enter Tryd.func30, Tryd.ntmps30
        go_wp2_with (go_at_call 38; refine (checkR_yes HG.out _).mono ?_; rintro e w1 ⟨_, rfl, rfl, hb⟩; have hc := conf_cells (heap_alloc_new w _) hb; have HB := Lib.hid (show Below w.heap.size w w1 from below_call hb (by go_grown)); clear hb)
        exact ⟨rfl, .tuple #[.slice none 0 0, .int .i64 4], by kernel_rfl, HB.out, _, rfl, bts_nil _ _⟩
    · rw [if_neg hk]
      go_enter Tryd.func30, Tryd.ntmps30
      by_cases hk0 : k < 0
      · clear hk
        go_wp2_with (go_at_call 38; refine (checkR_yes HG.out _).mono ?_; rintro e w1 ⟨_, rfl, rfl, hb⟩; have hc := conf_cells (heap_alloc_new w _) hb; have HB := Lib.hid (show Below w.heap.size w w1 from below_call hb (by go_grown)); clear hb)
        exact ⟨rfl, .tuple #[.slice none 0 0, .int .i64 201], by kernel_rfl, HB.out, _, rfl, bts_nil _ _⟩
      · have hk1 : n2 ≤ k := by omega
        clear hk
        go_wp2_with (go_at_call 38; refine (checkR_yes HG.out _).mono ?_; rintro e w1 ⟨_, rfl, rfl, hb⟩; have hc := conf_cells (heap_alloc_new w _) hb; have HB := Lib.hid (show Below w.heap.size w w1 from below_call hb (by go_grown)); clear hb)
        exact ⟨rfl, .tuple #[.slice none 0 0, .int .i64 201], by kernel_rfl, HB.out, _, rfl, bts_nil _ _⟩
  · rw [dialQ, if_neg hg]
    have HG := Lib.hid hg
    clear hg
    go_enter Tryd.func30, Tryd.ntmps30
    go_wp2_with (go_at_call 38; refine (checkR_no HG.out _).mono ?_; rintro e w1 ⟨_, rfl, rfl, hb⟩; have HB := Lib.hid (show Below w.heap.size w w1 from below_call hb (by go_grown)); clear hb)
    exact ⟨rfl, .tuple #[.slice none 0 0, .int .i64 200], by kernel_rfl, HB.out, _, rfl, bts_nil _ _⟩
set_option maxRecDepth 100000 in
theorem takeK_any (g1 g2 o m c k : Nat) (t : TypeId) (w : World) (h : w.heap[g2]? = some (.cells #[.slice (some ⟨g1, o, none⟩) m c, .int .i64 0] t (0, 0))) (hk : 1 ≤ k) (h1 : k ≤ m) (h2 : m ≤ c) (h3 : c ≤ 9223372036854775807) :
    Calls Tryd.prog 70 #[.pointer (some ⟨g2, 0, none⟩), .int .i64 k] w fun e w' => e = .returned (.slice (some ⟨g1, o, none⟩) k k) ∧ w' = w.setCell ⟨g2, 0, none⟩ (.slice (some (if c = k then ⟨g1, o, none⟩ else ⟨g1, o + k, none⟩)) (m - k) (c - k)) := by
  have c0 := row_cell h 0
  have c1 := row_cell h 1
  have f0 := row_free h 0
  simp only [List.getElem?_toArray, List.getElem?_cons_zero, List.getElem?_cons_succ] at c0 c1
  clear h
  go_enter Tryd.func70, Tryd.ntmps70
  by_cases hc : c = k
  · subst hc
    obtain rfl : m = c := by omega
    rw [if_pos rfl]
    go_wp2
    exact ⟨rfl, .slice (some ⟨g1, o, none⟩) m m, by kernel_rfl, rfl, by simp⟩
  · rw [if_neg hc]
    go_wp2
    exact ⟨rfl, .slice (some ⟨g1, o, none⟩) k k, by kernel_rfl, rfl, rfl⟩
theorem row_setCell0 {w : World} {g : Nat} {x y v : Value} {t : TypeId} (h : w.heap[g]? = some (.cells #[x, y] t (0, 0))) : (w.setCell ⟨g, 0, none⟩ v).heap[g]? = some (.cells #[v, y] t (0, 0)) := by
  rw [heap_setCell_same w g 0 _ _ v h]
  rfl
set_option maxHeartbeats 4000000 in
set_option maxRecDepth 100000 in
theorem bytesK_any (g1 g2 o m c k : Nat) (t : TypeId) (l : List Int) (w : World) (h : w.heap[g2]? = some (.cells #[.slice (some ⟨g1, o, none⟩) m c, .int .i64 0] t (0, 0))) (hk : 1 ≤ k) (h1 : k ≤ m) (h2 : m ≤ c) (h3 : c ≤ 70368744177664)
    (hn : l.length = k) (hl : BytesIn w (some ⟨g1, o, none⟩) l) (hne : g1 ≠ g2) :
    Calls Tryd.prog 56 #[.pointer (some ⟨g2, 0, none⟩), .int .i64 k] w fun e w' => ∃ v, e = .returned v ∧ Below w.heap.size (w.setCell ⟨g2, 0, none⟩ (.slice (some (if c = k then ⟨g1, o, none⟩ else ⟨g1, o + k, none⟩)) (m - k) (c - k))) w' ∧ Bts w' w.heap.size v l := by
  have HT := Lib.hid (takeK_any g1 g2 o m c k t w h hk h1 h2 (by omega))
  have hl2 := BytesIn.setCell (g2 := g2) (k := 0) (.slice (some (if c = k then ⟨g1, o, none⟩ else ⟨g1, o + k, none⟩)) (m - k) (c - k)) hl hne
  generalize hw1 : w.setCell ⟨g2, 0, none⟩ (.slice (some (if c = k then ⟨g1, o, none⟩ else ⟨g1, o + k, none⟩)) (m - k) (c - k)) = w1 at *
  have hsz : w1.heap.size = w.heap.size := by rw [← hw1, World.size_setCell]
  have HL2 := Lib.hid hl2
  have HSZ := Lib.hid hsz
  have HN := Lib.hid hn
  clear h hl hl2 hw1 hsz hn
  go_enter Tryd.func56, Tryd.ntmps56
  go_wp2_with first
    | (go_at_call 70; refine HT.out.mono ?_; rintro e w2 ⟨rfl, hw2⟩; subst hw2)
    | (at_builtin; (refine held_append _ _ rfl ?_))
  refine wpList_appB l _ _ rfl rfl rfl rfl (Below.refl w2.heap.size w2) (bts_nil _ _) HN.out HL2.out (fun h => by cases h) (by simp; omega) fun v' w' h1 h2 _ _ => ?_
  have H1 := Lib.hid h1
  have H2 := Lib.hid h2
  clear h1 h2
  go_wp2
  exact ⟨rfl, v', by kernel_rfl, v', rfl, HSZ.out ▸ H2.out, HSZ.out ▸ H1.out⟩
/-- A row that lies below a reader stays, when the reader is turned and a call goes by. -/
theorem row_far {w1 w3 : World} {g g2 : Nat} {cs : Array Value} {t : TypeId} {v : Value} (h : w1.heap[g]? = some (.cells cs t (0, 0))) (hu : Below w1.heap.size (w1.setCell ⟨g2, 0, none⟩ v) w3) (hg : g ≠ g2) : w3.heap[g]? = some (.cells cs t (0, 0)) := by
  rw [hu.block g (Array.getElem?_eq_some_iff.1 h).1, heap_setCell_other w1 ⟨g2, 0, none⟩ g v hg]
  exact h
theorem row_near {w1 w3 : World} {g2 : Nat} {x y v : Value} {t : TypeId} (h : w1.heap[g2]? = some (.cells #[x, y] t (0, 0))) (hu : Below w1.heap.size (w1.setCell ⟨g2, 0, none⟩ v) w3) : w3.heap[g2]? = some (.cells #[v, y] t (0, 0)) := by
  rw [hu.block g2 (Array.getElem?_eq_some_iff.1 h).1]
  exact row_setCell0 h
/-- A request of a dial round, read. -/
def dialP (g : Bool) (n2 : Int) (b : List Int) : Int × List Int × Int := if g = true then (if b.length = 92 then (if num (b.take 4) < n2 then (num (b.take 4), b.drop 4, 0) else (0, [], 201)) else (0, [], 4)) else (0, [], 200)
/-- What a parser of a number and bytes hands back. -/
def AnsN (w : World) (y : Int) (l : List Int) (k : Int) (e : Ending) (w' : World) : Prop := Below w.heap.size w w' ∧ ∃ v, e = .returned (.tuple #[.int .i64 y, v, .int .i64 k]) ∧ Bts w' w.heap.size v l
theorem num4 {b : List Int} (hb : Byt b) : 0 ≤ num (b.take 4) ∧ num (b.take 4) < 4294967296 := by
  have hx : Byt (b.take 4) := fun x hx => hb x (List.mem_of_mem_take hx)
  have hl : (b.take 4).length ≤ 4 := by rw [List.length_take]; omega
  generalize b.take 4 = l at *
  match l, hl with
  | [], _ => exact ⟨by decide, by decide⟩
  | [x0], _ => have h0 := hx x0 (by simp); simp only [num]; omega
  | [x0, x1], _ => have h0 := hx x0 (by simp); have h1 := hx x1 (by simp); simp only [num]; omega
  | [x0, x1, x2], _ => have h0 := hx x0 (by simp); have h1 := hx x1 (by simp); have h2 := hx x2 (by simp); simp only [num]; omega
  | [x0, x1, x2, x3], _ => have h0 := hx x0 (by simp); have h1 := hx x1 (by simp); have h2 := hx x2 (by simp); have h3 := hx x3 (by simp); simp only [num]; omega
set_option maxHeartbeats 4000000 in
set_option maxRecDepth 100000 in
theorem parseDial_any (n0 n1 n2 n3 n4 n5 : Int) (p : Option Addr) (n c : Nat) (b : List Int) (w : World) (hn : b.length = n) (hbb : Byt b) (h : BytesIn w p b) :
    Calls Tryd.prog 31 #[.agg #[.int .i64 n0, .int .i64 n1, .int .i64 n2, .int .i64 n3, .int .i64 n4, .int .i64 n5], .slice p n c] w (AnsN w (dialP (good n0 n1 n2 n3 n4 n5) n2 b).1 (dialP (good n0 n1 n2 n3 n4 n5) n2 b).2.1 (dialP (good n0 n1 n2 n3 n4 n5) n2 b).2.2) := by
  have H := Lib.hid h
  have HN := Lib.hid hn
  have HBB := Lib.hid hbb
  clear h hn hbb
  by_cases hg : good n0 n1 n2 n3 n4 n5 = true
  · have hbk := good_buckets hg
    by_cases hl : n = 92
    · rw [dialP, if_pos hg, if_pos (by rw [HN.out]; exact hl)]
      subst hl
      have HF := Lib.hid (fitE_ok (n := 92) (k := 92) hg rfl)
      have hq := num4 HBB.out
      have HB4 := Lib.hid (show Byt (b.take 4) from fun x hx => HBB.out x (List.mem_of_mem_take hx))
      have HL4 := Lib.hid (show (b.take 4).length = 4 by rw [List.length_take, HN.out]; omega)
      obtain ⟨q, hqe⟩ : ∃ q, q = num (b.take 4) := ⟨_, rfl⟩
      rw [← hqe] at hq ⊢
      have HQ := Lib.hid hqe
      obtain ⟨R, hR⟩ : ∃ R, R = (if q < n2 then (q, b.drop 4, (0 : Int)) else (0, [], 201)) := ⟨_, rfl⟩
      rw [← hR]
      have HR := Lib.hid hR
      clear hg hqe hR
      by_cases hqn : q < n2
      · have hRe := HR.out
        rw [if_pos hqn] at hRe
        subst hRe
        have hw32 : q % 4294967296 = q := by omega
        go_enter Tryd.func31, Tryd.ntmps31
        go_wp2_with first
          | (go_at_call 46; refine (fits_any _ _ _ _ _ _ _ _ _ _ _).mono ?_; rintro e w1 ⟨_, rfl, rfl, hb⟩; rw [HF.out]; have HROW := Lib.hid (row_call hb (heap_alloc_new w _)); have HB := Lib.hid (show Below w.heap.size w w1 from below_call hb (by go_grown)); clear hb)
          | (go_at_call 53; refine (newReader_any _ b 92 _ _ HN.out (by decide) (H.out.under HB.out (Nat.le_refl _)) (by decide)).mono ?_; rintro e w2 ⟨hb, g1, g2, t1, t2, rfl, hne, hge1, hge2, hr1, hr2⟩; have HNG := Lib.hid (show w.heap.size ≠ g2 from Nat.ne_of_lt (Nat.lt_of_lt_of_le (Array.getElem?_eq_some_iff.1 HROW.out).1 hge2)); have HG2 := Lib.hid (Nat.le_trans HB.out.size hge2); have HROW := Lib.hid (row_call hb HROW.out); have HB := Lib.hid (below_call hb HB.out); have HNE := Lib.hid hne; have HG1 := Lib.hid hge1; have HR1 := Lib.hid hr1; have HR2 := Lib.hid hr2; clear hb hne hge1 hge2 hr1 hr2)
          | (go_at_call 54; refine (u32_any g1 g2 0 92 92 t2 (b.take 4) _ HR2.out (by decide) (by decide) (by decide) HL4.out HB4.out (BytesIn.vals 0 HR1.out (by rw [List.drop_zero, HL4.out])) HNE.out).mono ?_; rintro e w3 ⟨rfl, hb⟩; rw [← HQ.out]; rw [if_neg (by decide)] at hb; have HU := Lib.hid hb; clear hb; have HR3 := Lib.hid (row_near HR2.out HU.out); have HBU := Lib.hid ((Below.setCell (p := ⟨g2, 0, none⟩) HB.out HG2.out _).trans (HU.out.mono HB.out.size)); have hc := conf_cells (row_far HROW.out HU.out HNG.out) (Below.refl _ _))
          | (go_at_call 56; refine (bytesK_any g1 g2 4 88 88 88 t2 (b.drop 4) _ HR3.out (by decide) (by decide) (by decide) (by decide) (by rw [List.length_drop, HN.out]) (BytesIn.vals 4 (row_far HR1.out HU.out HNE.out) (by rw [List.take_of_length_le (Nat.le_refl _)])) HNE.out).mono ?_; rintro e w4 ⟨v4, rfl, hb, hv⟩; have HB4 := Lib.hid ((Below.setCell (p := ⟨g2, 0, none⟩) HBU.out HG2.out _).trans (hb.mono HBU.out.size)); have HV := Lib.hid (hv.low HBU.out.size); clear hb hv hc)
        exact ⟨rfl, .tuple #[.int .i64 q, v4, .int .i64 0], by kernel_rfl, HB4.out, v4, rfl, HV.out⟩
      · have hRe := HR.out
        rw [if_neg hqn] at hRe
        subst hRe
        go_enter Tryd.func31, Tryd.ntmps31
        go_wp2_with first
          | (go_at_call 46; refine (fits_any _ _ _ _ _ _ _ _ _ _ _).mono ?_; rintro e w1 ⟨_, rfl, rfl, hb⟩; rw [HF.out]; have HROW := Lib.hid (row_call hb (heap_alloc_new w _)); have HB := Lib.hid (show Below w.heap.size w w1 from below_call hb (by go_grown)); clear hb)
          | (go_at_call 53; refine (newReader_any _ b 92 _ _ HN.out (by decide) (H.out.under HB.out (Nat.le_refl _)) (by decide)).mono ?_; rintro e w2 ⟨hb, g1, g2, t1, t2, rfl, hne, hge1, hge2, hr1, hr2⟩; have HNG := Lib.hid (show w.heap.size ≠ g2 from Nat.ne_of_lt (Nat.lt_of_lt_of_le (Array.getElem?_eq_some_iff.1 HROW.out).1 hge2)); have HG2 := Lib.hid (Nat.le_trans HB.out.size hge2); have HROW := Lib.hid (row_call hb HROW.out); have HB := Lib.hid (below_call hb HB.out); have HNE := Lib.hid hne; have HG1 := Lib.hid hge1; have HR1 := Lib.hid hr1; have HR2 := Lib.hid hr2; clear hb hne hge1 hge2 hr1 hr2)
          | (go_at_call 54; refine (u32_any g1 g2 0 92 92 t2 (b.take 4) _ HR2.out (by decide) (by decide) (by decide) HL4.out HB4.out (BytesIn.vals 0 HR1.out (by rw [List.drop_zero, HL4.out])) HNE.out).mono ?_; rintro e w3 ⟨rfl, hb⟩; rw [← HQ.out]; rw [if_neg (by decide)] at hb; have HU := Lib.hid hb; clear hb; have HR3 := Lib.hid (row_near HR2.out HU.out); have HBU := Lib.hid ((Below.setCell (p := ⟨g2, 0, none⟩) HB.out HG2.out _).trans (HU.out.mono HB.out.size)); have hc := conf_cells (row_far HROW.out HU.out HNG.out) (Below.refl _ _))
        exact ⟨rfl, .tuple #[.int .i64 0, .slice none 0 0, .int .i64 201], by kernel_rfl, HBU.out, _, rfl, bts_nil _ _⟩
    · rw [dialP, if_pos hg, if_neg (by rw [HN.out]; exact hl)]
      have HF := Lib.hid (fitE_len (n := n) (k := 92) hg (by omega))
      clear hg
      go_enter Tryd.func31, Tryd.ntmps31
      go_wp2_with (go_at_call 46; refine (fits_any _ _ _ _ _ _ _ _ _ _ _).mono ?_; rintro e w1 ⟨_, rfl, rfl, hb⟩; rw [HF.out]; have HB := Lib.hid (show Below w.heap.size w w1 from below_call hb (by go_grown)); clear hb)
      exact ⟨rfl, .tuple #[.int .i64 0, .slice none 0 0, .int .i64 4], by kernel_rfl, HB.out, _, rfl, bts_nil _ _⟩
  · rw [dialP, if_neg hg]
    have HF := Lib.hid hg
    clear hg
    go_enter Tryd.func31, Tryd.ntmps31
    go_wp2_with (go_at_call 46; refine (fits_any _ _ _ _ _ _ _ _ _ _ _).mono ?_; rintro e w1 ⟨_, rfl, rfl, hb⟩; rw [fitE_bad HF.out]; have HB := Lib.hid (show Below w.heap.size w w1 from below_call hb (by go_grown)); clear hb)
    exact ⟨rfl, .tuple #[.int .i64 0, .slice none 0 0, .int .i64 200], by kernel_rfl, HB.out, _, rfl, bts_nil _ _⟩
theorem tI64 : CellT Tryd.prog 3 := ⟨_, Tryd.underlying3, rfl⟩
theorem geq_ev {p q : Operand} {a b : Int} {c : Bool} (h : decide (b ≤ a) = c) (w : World) : (do eqGuard .geq 3 p q (.int .i64 a) (.int .i64 b); binOp .geq 3 (.int .i64 a) (.int .i64 b) : Sem Value).run Tryd.prog w = .ok (.bool c) w := by
  subst h; rfl
theorem number_ev {p : Option Addr} {l : List Int} {n c : Nat} {q : Int} (w : World) (hn : l.length = n) (hb : Byt l) (h4 : n ≤ 4) (h : BytesIn w p l) (hq : q = num l) : Calls Tryd.prog 57 #[.slice p n c] w (Gives (· = .int .i64 q) w) := by
  subst hq
  exact number_any p l n c w hn hb h4 h
set_option maxHeartbeats 4000000 in
set_option maxRecDepth 100000 in
theorem parseDialR_any (n0 n1 n2 n3 n4 n5 : Int) (p : Option Addr) (n c : Nat) (b : List Int) (w : World) (hn : b.length = n) (hbb : Byt b) (h : BytesIn w p b) (hcn : n ≤ c) :
    Calls Tryd.prog 32 #[.agg #[.int .i64 n0, .int .i64 n1, .int .i64 n2, .int .i64 n3, .int .i64 n4, .int .i64 n5], .slice p n c] w (AnsN w (dialP (good n0 n1 n2 n3 n4 n5) n2 b).1 (dialP (good n0 n1 n2 n3 n4 n5) n2 b).2.1 (dialP (good n0 n1 n2 n3 n4 n5) n2 b).2.2) := by
  have H := Lib.hid h
  have HN := Lib.hid hn
  have HBB := Lib.hid hbb
  clear h hn hbb
  by_cases hg : good n0 n1 n2 n3 n4 n5 = true
  · have HG := Lib.hid hg
    by_cases hl : n = 92
    · rw [dialP, if_pos hg, if_pos (by rw [HN.out]; exact hl)]
      subst hl
      obtain ⟨ad, rfl, _⟩ := H.out 0 (by rw [HN.out]; decide)
      have HB4 := Lib.hid (show Byt (b.take 4) from fun x hx => HBB.out x (List.mem_of_mem_take hx))
      have HL4 := Lib.hid (show (b.take 4).length = 4 by rw [List.length_take, HN.out]; omega)
      have HLD := Lib.hid (show (b.drop 4).length = 92 - 4 by rw [List.length_drop, HN.out])
      have HTK := Lib.hid (show ∀ w', Below w.heap.size w w' → BytesIn w' (some ad) (b.take 4) from fun w' hb => by
        have h1 := (H.out.keep hb).sub 0 4
        rwa [List.drop_zero, show ad.add 0 = ad by simp [Addr.add]] at h1)
      have HDR := Lib.hid (show ∀ w', Below w.heap.size w w' → BytesIn w' (some (ad.add 4)) (b.drop 4) from fun w' hb => by
        have h1 := (H.out.keep hb).sub 4 (b.drop 4).length
        rwa [List.take_length] at h1)
      obtain ⟨q, hqe⟩ : ∃ q, q = num (b.take 4) := ⟨_, rfl⟩
      rw [← hqe]
      have HQ := Lib.hid hqe
      obtain ⟨R, hR⟩ : ∃ R, R = (if q < n2 then (q, b.drop 4, (0 : Int)) else (0, [], 201)) := ⟨_, rfl⟩
      rw [← hR]
      have HR := Lib.hid hR
      clear hg hqe hR
      go_enter Tryd.func32, Tryd.ntmps32
      go_wp2_with (go_at_call 38; refine (checkR_yes HG.out _).mono ?_; rintro e w1 ⟨_, rfl, rfl, hb⟩; have HCF := Lib.hid (show ∀ w', Below w1.heap.size w1 w' → w'.cell? ⟨w.heap.size, 2, none⟩ = some (.int .i64 n2) from fun w' h2 => conf_cells (row_call hb (heap_alloc_new w _)) h2 2 _ rfl); have HB := Lib.hid (show Below w.heap.size w w1 from below_call hb (by go_grown)); clear hb)
      by_cases hqn : q < n2
      · have hRe := HR.out
        rw [if_pos hqn] at hRe
        subst hRe
        have hS := Own.start w1
        obtain ⟨M, hM⟩ : ∃ M, M = w1.heap.size := ⟨_, rfl⟩
        refine hide_frame fun t0 HT => ?_
        have HS : t0.size = 25 := by rw [HT]; rfl
        have h1 : t0[1]? = some (.slice (some ad) 92 c) := by rw [HT]; rfl
        have h2 : t0[2]? = some (.pointer (some ⟨w.heap.size, 0, none⟩)) := by rw [HT]; rfl
        clear HT
        refine wp_region_all 5 (fun i => [13, 14, 15, 16, 17, 18].getD i 0) (fun i => [(· = .slice (some ad) 92 c), (· = .slice (some ad) 4 c), (· = .int .i64 q), (· = .pointer (some ⟨w.heap.size, 2, none⟩)), (· = .int .i64 n2), (· = .bool false)].getD i (fun _ => True)) (fun w' => Own w1 [] w' ∧ M ≤ w'.heap.size)
          (by kernel_rfl) (by kernel_rfl) (by kernel_rfl) (slots_apart (by kernel_rfl)) (slots_lie (by rw [HS]; kernel_rfl)) ⟨hS.drew, Nat.le_of_eq hM⟩ (fun w1 w2 h b => ⟨h.1.keep b, Nat.le_trans h.2 b.size⟩) ?_ ?_
        · clear hS
          intro i o hi ho
          have hc : i = 0 ∨ i = 1 ∨ i = 2 ∨ i = 3 ∨ i = 4 ∨ i = 5 := by omega
          rcases hc with rfl | rfl | rfl | rfl | rfl | rfl
          · obtain rfl := Option.some.inj ho
            refine ⟨rfl, fun a w' hS hold hin K hK => ?_⟩
            refine if_always rfl ?_
            exact op_move (V := (· = .slice (some ad) 92 c)) _ _ rfl rfl (eval_tmp ((hold 1 (slots_not (by kernel_rfl))).trans h1)) rfl hK
          · obtain rfl := Option.some.inj ho
            refine ⟨rfl, fun a w' hS hold hin K hK => ?_⟩
            obtain ⟨y0, x0, rfl⟩ := hin 0 rfl (by omega)
            refine if_always rfl ?_
            exact op_upto 5 (by kernel_rfl) (by kernel_rfl) _ _ rfl rfl ad 92 c 4 (eval_tmp x0) rfl (by omega) hK
          · obtain rfl := Option.some.inj ho
            refine ⟨rfl, fun a w' hS hold hin K hK => ?_⟩
            obtain ⟨y1, x1, rfl⟩ := hin 1 rfl (by omega)
            refine if_always rfl ?_
            exact op_fn1 _ _ _ _ rfl rfl (eval_tmp x1) (by intro args w; kernel_rfl) (number_ev _ HL4.out HB4.out (by decide) (HTK.out _ (below_call hS.1.1 HB.out)) HQ.out) hK
          · obtain rfl := Option.some.inj ho
            refine ⟨rfl, fun a w' hS hold hin K hK => ?_⟩
            refine if_always rfl ?_
            exact op_field 23 _ 2 _ (.pointer (some ⟨w.heap.size, 2, none⟩)) rfl rfl (eval_tmp ((hold 2 (slots_not (by kernel_rfl))).trans h2)) (fun w => by kernel_rfl) hK
          · obtain rfl := Option.some.inj ho
            refine ⟨rfl, fun a w' hS hold hin K hK => ?_⟩
            obtain ⟨y3, x3, rfl⟩ := hin 3 rfl (by omega)
            refine if_always rfl ?_
            exact op_cell tI64 _ ⟨w.heap.size, 2, none⟩ rfl rfl (eval_tmp x3) (.int .i64 n2) (HCF.out _ hS.1.1) hK
          · obtain rfl := Option.some.inj ho
            refine ⟨rfl, fun a w' hS hold hin K hK => ?_⟩
            obtain ⟨y2, x2, rfl⟩ := hin 2 rfl (by omega)
            obtain ⟨y4, x4, rfl⟩ := hin 4 rfl (by omega)
            refine if_always rfl ?_
            exact op_bin (V := (· = .bool false)) _ _ _ _ _ _ _ (.bool false) rfl rfl (eval_tmp x2) (eval_tmp x4) (fun w => geq_ev (by exact decide_eq_false (by omega)) w) rfl hK
        clear hS
        intro t1 V1 hs hold hout hS
        replace HS := hs.trans HS
        replace hS := hS.1
        obtain ⟨_, q18, rfl⟩ : ∃ x, t1[18]? = some x ∧ x = (.bool false : Value) := hout 5 (by omega)
        replace h1 := (hold 1 (slots_not (by kernel_rfl))).trans h1
        replace h2 := (hold 2 (slots_not (by kernel_rfl))).trans h2
        clear hold hout hs
        obtain ⟨f, e0, hf⟩ := wash HS
        have f1 := hf 1 _ h1
        have f2 := hf 2 _ h2
        have f18 := hf 18 _ q18
        clear hf
        rw [e0.trans (show _ = #[f 0, f 1, f 2, f 3, f 4, f 5, f 6, f 7, f 8, f 9, f 10, f 11, f 12, f 13, f 14, f 15, f 16, f 17, f 18, f 19, f 20, f 21, f 22, f 23, f 24] from by kernel_rfl), f1, f2, f18]
        clear f1 f2 f18
        clear e0
        try dsimp only
        clear h1 h2 q18 hM HS t1 t0 M
        replace HB := Lib.hid (below_call hS.1 HB.out)
        clear hS
        go_wp2
        have hS := Own.start V1
        obtain ⟨M, hM⟩ : ∃ M, M = V1.heap.size := ⟨_, rfl⟩
        refine hide_frame fun t0 HT => ?_
        have HS : t0.size = 25 := by rw [HT]; rfl
        have h1 : t0[1]? = some (.slice (some ad) 92 c) := by rw [HT]; rfl
        clear HT
        refine wp_region_one 6 5 (by omega) (fun i => [19, 20, 21, 22, 23, 24].getD i 0) (fun i => [(· = .slice (some ad) 92 c), (· = .slice (some ad) 4 c), (· = .int .i64 q), (· = .slice (some ad) 92 c), (· = .slice (some (ad.add 4)) (92 - 4) (c - 4)), (fun _ => True)].getD i (fun _ => True)) (fun x w' => Bts w' V1.heap.size x (b.drop 4)) (fun w' => Own V1 [] w' ∧ M ≤ w'.heap.size)
          (by kernel_rfl) (by kernel_rfl) (slots_apart (by kernel_rfl)) (slots_lie (by rw [HS]; kernel_rfl)) ⟨hS.drew, Nat.le_of_eq hM⟩ (fun w1 w2 h b => ⟨h.1.keep b, Nat.le_trans h.2 b.size⟩) (fun x w1' w2' h hb => h.under hb) ?_ ?_ ?_
        · clear hS
          intro i o hi hnu ho
          have hc : i = 0 ∨ i = 1 ∨ i = 2 ∨ i = 3 ∨ i = 4 ∨ i = 5 := by omega
          rcases hc with rfl | rfl | rfl | rfl | rfl | rfl
          · obtain rfl := Option.some.inj ho
            refine ⟨rfl, fun a w' hS hold hin K hK => ?_⟩
            refine if_always rfl ?_
            exact op_move (V := (· = .slice (some ad) 92 c)) _ _ rfl rfl (eval_tmp ((hold 1 (slots_not (by kernel_rfl))).trans h1)) rfl hK
          · obtain rfl := Option.some.inj ho
            refine ⟨rfl, fun a w' hS hold hin K hK => ?_⟩
            obtain ⟨y0, x0, rfl⟩ := hin 0 rfl (by omega) (by omega)
            refine if_always rfl ?_
            exact op_upto 5 (by kernel_rfl) (by kernel_rfl) _ _ rfl rfl ad 92 c 4 (eval_tmp x0) rfl (by omega) hK
          · obtain rfl := Option.some.inj ho
            refine ⟨rfl, fun a w' hS hold hin K hK => ?_⟩
            obtain ⟨y1, x1, rfl⟩ := hin 1 rfl (by omega) (by omega)
            refine if_always rfl ?_
            exact op_fn1 _ _ _ _ rfl rfl (eval_tmp x1) (by intro args w; kernel_rfl) (number_ev _ HL4.out HB4.out (by decide) (HTK.out _ (below_call hS.1.1 HB.out)) HQ.out) hK
          · obtain rfl := Option.some.inj ho
            refine ⟨rfl, fun a w' hS hold hin K hK => ?_⟩
            refine if_always rfl ?_
            exact op_move (V := (· = .slice (some ad) 92 c)) _ _ rfl rfl (eval_tmp ((hold 1 (slots_not (by kernel_rfl))).trans h1)) rfl hK
          · obtain rfl := Option.some.inj ho
            refine ⟨rfl, fun a w' hS hold hin K hK => ?_⟩
            obtain ⟨y3, x3, rfl⟩ := hin 3 rfl (by omega) (by omega)
            refine if_always rfl ?_
            exact op_from 5 (by kernel_rfl) (by kernel_rfl) _ _ rfl rfl ad 92 c 4 (eval_tmp x3) rfl (by omega) (by omega) hK
          · exact absurd rfl hnu
        · clear hS
          intro o ho
          obtain rfl := Option.some.inj ho
          refine ⟨rfl, fun a w' hS hold hin K hK => ?_⟩
          obtain ⟨y4, x4, rfl⟩ := hin 4 rfl (by omega) (by omega)
          refine if_always rfl ?_
          exact op_newv _ _ _ _ (b.drop 4) rfl rfl (eval_tmp x4) (by intro args w; kernel_rfl) (copyV_any _ (b.drop 4) (92 - 4) _ _ HLD.out (HDR.out _ (below_call hS.1.1 HB.out)) (by decide)) (fun x w' h1 h2 => hK x w' (h1.low hS.1.1.size) h2)
        clear hS
        intro t1 V7 hs hold hout hu1 hS
        obtain ⟨x24, q24, u24⟩ := hu1
        replace q24 : t1[24]? = some x24 := q24
        replace HS := hs.trans HS
        replace hS := hS.1
        obtain ⟨_, q21, rfl⟩ : ∃ x, t1[21]? = some x ∧ x = (.int .i64 q : Value) := hout 2 (by omega) (by omega)
        replace h1 := (hold 1 (slots_not (by kernel_rfl))).trans h1
        clear hold hout hs
        simp only [List.drop_succ_cons, List.drop_zero]
        obtain ⟨f, e0, hf⟩ := wash HS
        have f1 := hf 1 _ h1
        have f24 := hf 24 _ q24
        have f21 := hf 21 _ q21
        clear hf
        rw [e0.trans (show _ = #[f 0, f 1, f 2, f 3, f 4, f 5, f 6, f 7, f 8, f 9, f 10, f 11, f 12, f 13, f 14, f 15, f 16, f 17, f 18, f 19, f 20, f 21, f 22, f 23, f 24] from by kernel_rfl), f1, f24, f21]
        clear f1 f24 f21
        clear e0
        try dsimp only
        clear h1 q21 q24 hM HS t1 t0 M
        have HU := Lib.hid (u24.low HB.out.size)
        have HB2 := Lib.hid (below_call hS.1 HB.out)
        clear hS u24
        go_wp2
        exact ⟨rfl, .tuple #[.int .i64 q, x24, .int .i64 0], by kernel_rfl, HB2.out, x24, rfl, HU.out⟩
      · have hRe := HR.out
        rw [if_neg hqn] at hRe
        subst hRe
        have hS := Own.start w1
        obtain ⟨M, hM⟩ : ∃ M, M = w1.heap.size := ⟨_, rfl⟩
        refine hide_frame fun t0 HT => ?_
        have HS : t0.size = 25 := by rw [HT]; rfl
        have h1 : t0[1]? = some (.slice (some ad) 92 c) := by rw [HT]; rfl
        have h2 : t0[2]? = some (.pointer (some ⟨w.heap.size, 0, none⟩)) := by rw [HT]; rfl
        clear HT
        refine wp_region_all 5 (fun i => [13, 14, 15, 16, 17, 18].getD i 0) (fun i => [(· = .slice (some ad) 92 c), (· = .slice (some ad) 4 c), (· = .int .i64 q), (· = .pointer (some ⟨w.heap.size, 2, none⟩)), (· = .int .i64 n2), (· = .bool true)].getD i (fun _ => True)) (fun w' => Own w1 [] w' ∧ M ≤ w'.heap.size)
          (by kernel_rfl) (by kernel_rfl) (by kernel_rfl) (slots_apart (by kernel_rfl)) (slots_lie (by rw [HS]; kernel_rfl)) ⟨hS.drew, Nat.le_of_eq hM⟩ (fun w1 w2 h b => ⟨h.1.keep b, Nat.le_trans h.2 b.size⟩) ?_ ?_
        · clear hS
          intro i o hi ho
          have hc : i = 0 ∨ i = 1 ∨ i = 2 ∨ i = 3 ∨ i = 4 ∨ i = 5 := by omega
          rcases hc with rfl | rfl | rfl | rfl | rfl | rfl
          · obtain rfl := Option.some.inj ho
            refine ⟨rfl, fun a w' hS hold hin K hK => ?_⟩
            refine if_always rfl ?_
            exact op_move (V := (· = .slice (some ad) 92 c)) _ _ rfl rfl (eval_tmp ((hold 1 (slots_not (by kernel_rfl))).trans h1)) rfl hK
          · obtain rfl := Option.some.inj ho
            refine ⟨rfl, fun a w' hS hold hin K hK => ?_⟩
            obtain ⟨y0, x0, rfl⟩ := hin 0 rfl (by omega)
            refine if_always rfl ?_
            exact op_upto 5 (by kernel_rfl) (by kernel_rfl) _ _ rfl rfl ad 92 c 4 (eval_tmp x0) rfl (by omega) hK
          · obtain rfl := Option.some.inj ho
            refine ⟨rfl, fun a w' hS hold hin K hK => ?_⟩
            obtain ⟨y1, x1, rfl⟩ := hin 1 rfl (by omega)
            refine if_always rfl ?_
            exact op_fn1 _ _ _ _ rfl rfl (eval_tmp x1) (by intro args w; kernel_rfl) (number_ev _ HL4.out HB4.out (by decide) (HTK.out _ (below_call hS.1.1 HB.out)) HQ.out) hK
          · obtain rfl := Option.some.inj ho
            refine ⟨rfl, fun a w' hS hold hin K hK => ?_⟩
            refine if_always rfl ?_
            exact op_field 23 _ 2 _ (.pointer (some ⟨w.heap.size, 2, none⟩)) rfl rfl (eval_tmp ((hold 2 (slots_not (by kernel_rfl))).trans h2)) (fun w => by kernel_rfl) hK
          · obtain rfl := Option.some.inj ho
            refine ⟨rfl, fun a w' hS hold hin K hK => ?_⟩
            obtain ⟨y3, x3, rfl⟩ := hin 3 rfl (by omega)
            refine if_always rfl ?_
            exact op_cell tI64 _ ⟨w.heap.size, 2, none⟩ rfl rfl (eval_tmp x3) (.int .i64 n2) (HCF.out _ hS.1.1) hK
          · obtain rfl := Option.some.inj ho
            refine ⟨rfl, fun a w' hS hold hin K hK => ?_⟩
            obtain ⟨y2, x2, rfl⟩ := hin 2 rfl (by omega)
            obtain ⟨y4, x4, rfl⟩ := hin 4 rfl (by omega)
            refine if_always rfl ?_
            exact op_bin (V := (· = .bool true)) _ _ _ _ _ _ _ (.bool true) rfl rfl (eval_tmp x2) (eval_tmp x4) (fun w => geq_ev (by exact decide_eq_true (by omega)) w) rfl hK
        clear hS
        intro t1 V1 hs hold hout hS
        replace HS := hs.trans HS
        replace hS := hS.1
        obtain ⟨_, q18, rfl⟩ : ∃ x, t1[18]? = some x ∧ x = (.bool true : Value) := hout 5 (by omega)
        replace h1 := (hold 1 (slots_not (by kernel_rfl))).trans h1
        replace h2 := (hold 2 (slots_not (by kernel_rfl))).trans h2
        clear hold hout hs
        obtain ⟨f, e0, hf⟩ := wash HS
        have f1 := hf 1 _ h1
        have f2 := hf 2 _ h2
        have f18 := hf 18 _ q18
        clear hf
        rw [e0.trans (show _ = #[f 0, f 1, f 2, f 3, f 4, f 5, f 6, f 7, f 8, f 9, f 10, f 11, f 12, f 13, f 14, f 15, f 16, f 17, f 18, f 19, f 20, f 21, f 22, f 23, f 24] from by kernel_rfl), f1, f2, f18]
        clear f1 f2 f18
        clear e0
        try dsimp only
        clear h1 h2 q18 hM HS t1 t0 M
        replace HB := Lib.hid (below_call hS.1 HB.out)
        clear hS
        go_wp2
        exact ⟨rfl, .tuple #[.int .i64 0, .slice none 0 0, .int .i64 201], by kernel_rfl, HB.out, _, rfl, bts_nil _ _⟩
    · rw [dialP, if_pos hg, if_neg (by rw [HN.out]; exact hl)]
      have hl' : ¬ (n : Int) = 92 := by omega
      clear hg
      go_enter Tryd.func32, Tryd.ntmps32
      go_wp2_with (go_at_call 38; refine (checkR_yes HG.out _).mono ?_; rintro e w1 ⟨_, rfl, rfl, hb⟩; have HB := Lib.hid (show Below w.heap.size w w1 from below_call hb (by go_grown)); clear hb)
      exact ⟨rfl, .tuple #[.int .i64 0, .slice none 0 0, .int .i64 4], by kernel_rfl, HB.out, _, rfl, bts_nil _ _⟩
  · rw [dialP, if_neg hg]
    have HG := Lib.hid hg
    clear hg
    go_enter Tryd.func32, Tryd.ntmps32
    go_wp2_with (go_at_call 38; refine (checkR_no HG.out _).mono ?_; rintro e w1 ⟨_, rfl, rfl, hb⟩; have HB := Lib.hid (show Below w.heap.size w w1 from below_call hb (by go_grown)); clear hb)
    exact ⟨rfl, .tuple #[.int .i64 0, .slice none 0 0, .int .i64 200], by kernel_rfl, HB.out, _, rfl, bts_nil _ _⟩
/-- The acknowledgement. -/
def ackL : List Int := [116, 114, 121, 115, 116, 58, 32, 114, 117, 110, 103, 44, 32, 111, 107, 46]
set_option maxRecDepth 100000 in
theorem ack_any (w : World) : Calls Tryd.prog 33 #[] w (NewM w ackL) := by
  have kc := fun (w : World) (C : Array Value) (n c : Nat) => Lib.run_convert_bytes_const (P := Tryd.prog) w 26 5 C n c Tryd.underlying26 Tryd.underlying5
  go_enter Tryd.func33, Tryd.ntmps33
  go_wp2
  exact ⟨rfl, .slice (some ⟨w.heap.size, 0, none⟩) 16 16, by kernel_rfl, (Below.refl _ _).alloc (Nat.le_refl _) _, _, rfl, .inr ⟨w.heap.size, rfl, Nat.le_refl _, heap_alloc_new w _, by decide⟩⟩
set_option maxHeartbeats 4000000 in
set_option maxRecDepth 100000 in
theorem text_ack (w : World) : Calls Tryd.prog 58 #[.string ⟨#[116, 114, 121, 115, 116, 58, 32, 114, 117, 110, 103, 44, 32, 111, 107, 46]⟩] w (NewV w ackL) := by
  go_enter Tryd.func58, Tryd.ntmps58
  go_wp2
  go_loopw [3, 4] (fun v i wr => ∃ k, k ≤ 16 ∧ i = .int .i64 (k : Nat) ∧ Bts wr w.heap.size v (ackL.take k) ∧ Below w.heap.size w wr) (fun _ i _ => 16 - (intOf i).toNat)
  case atStart => exact ⟨0, by omega, rfl, bts_nil _ _, Below.refl _ _⟩
  case round =>
    obtain ⟨k, hk, rfl, hbt, hb⟩ := hrel
    have HB := Lib.hid hb
    have HBT := Lib.hid hbt
    clear hb hbt
    by_cases hlt : k < 16
    · rcases (show k = 0 ∨ k = 1 ∨ k = 2 ∨ k = 3 ∨ k = 4 ∨ k = 5 ∨ k = 6 ∨ k = 7 ∨ k = 8 ∨ k = 9 ∨ k = 10 ∨ k = 11 ∨ k = 12 ∨ k = 13 ∨ k = 14 ∨ k = 15 by omega) with rfl | rfl | rfl | rfl | rfl | rfl | rfl | rfl | rfl | rfl | rfl | rfl | rfl | rfl | rfl | rfl <;>
      · clear hlt hk
        go_wp2_with (at_builtin; (refine held_append _ _ rfl ?_))
        refine wpList_app1 _ _ rfl rfl rfl rfl HB.out HBT.out (by simp [ackL]) fun v' w' h1 h2 _ _ => ?_
        have H1 := Lib.hid h1
        have H2 := Lib.hid h2
        clear h1 h2
        go_wp2
        go_roundw
        case rel => exact ⟨_, by decide, rfl, H1.out, H2.out⟩
        case measure => simp [intOf]
    · obtain rfl : k = 16 := by omega
      go_wp2
      exact ⟨rfl, u3, by kernel_rfl, HB.out, _, rfl, HBT.out⟩
set_option maxRecDepth 100000 in
theorem ackR_any (w : World) : Calls Tryd.prog 34 #[] w (NewV w ackL) := by
  go_enter Tryd.func34, Tryd.ntmps34
  go_wp2_with (go_at_call 58; refine (text_ack _).mono ?_; rintro e w1 ⟨hb, v, rfl, hv⟩; have HB := Lib.hid hb; have HV := Lib.hid hv; clear hb hv)
  exact ⟨rfl, v, by kernel_rfl, HB.out, v, rfl, HV.out⟩
end Go.Proofs.YtmochmpamgfboaaDoor
