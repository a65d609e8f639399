/- codec.Frame. Condition: the program's variable errors.errorType is as its text lays it. A reader's Err; trystref00.EqRows where the lists are the same. Condition: lengths that memory can hold. A reader that has too few bytes: take, U32. No condition. A reader of any list of bytes, the empty one too. Condition: memory can hold them. codec.ParseFrame. Condition: memory can hold the bytes. -/
import Derived.Test.YtmochmpamgfboaaDoorDialx
import Derived.Test.YtmochmpamgfboaaDoorApx
namespace Go.Proofs.YtmochmpamgfboaaDoor
open Go.RowKit
/-- A frame. -/
def frameQ (k : Int) (vs : List (Option Addr × Nat × List Int)) : List Int × Int := if 1 ≤ k ∧ k < 64 then (if vs.length ≤ 256 then (if ∀ r ∈ vs, r.2.2.length = 88 then (le4 k ++ (le4 vs.length ++ flat vs), 0) else ([], 4)) else ([], 3)) else ([], 201)
set_option maxHeartbeats 4000000 in
set_option maxRecDepth 100000 in
theorem frame_any (k : Int) (p : Option Addr) (n c : Nat) (vs : List (Option Addr × Nat × List Int)) (w : World) (hh : Handle w) (hn : vs.length = n) (h : RowsIn w p vs) :
    Calls Tryd.prog 19 #[.int .i64 k, .slice p n c] w (Ans w (frameQ k vs).1 (frameQ k vs).2) := by
  have H := Lib.hid h
  have HN := Lib.hid hn
  have HH := Lib.hid hh
  clear h hh
  by_cases hk : 1 ≤ k ∧ k < 64
  · rw [frameQ, if_pos hk, hn]
    have hk0 : ¬ k < 1 := by omega
    have hk1 : ¬ 64 ≤ k := by omega
    by_cases hl : n ≤ 256
    · rw [if_pos hl]
      have hl0 : ¬ (256 : Int) < n := by omega
      obtain ⟨R, hR⟩ : ∃ R, R = (if ∀ r ∈ vs, r.2.2.length = 88 then (le4 k ++ (le4 n ++ flat vs), (0 : Int)) else ([], 4)) := ⟨_, rfl⟩
      rw [← hR]
      have HR := Lib.hid hR
      have HPT := Lib.hid (show ∀ (j : Nat) (v : Value) (o : Option (List Int)), [Value.iface 3 (.int .i64 k), .iface 3 (.int .i64 n), .iface 40 (.slice p n c)][j]? = some v → [some (le4 k), some (le4 n), (if ∀ r ∈ vs, r.2.2.length = 88 then some (vs.map (·.2.2)).flatten else none)][j]? = some o → PartIn (w.alloc (.cells #[.iface 3 (.int .i64 k), .iface 3 (.int .i64 n), .iface 40 (.slice p n c)] 20)) v o from fun j v o h1 h2 => by
        match j, h1, h2 with
        | 0, h1, h2 =>
          obtain rfl := Option.some.inj h1
          obtain rfl := Option.some.inj h2
          have h3 := PartIn.num (w := (w.alloc (.cells #[.iface 3 (.int .i64 k), .iface 3 (.int .i64 n), .iface 40 (.slice p n c)] 20))) k
          rwa [show k % 4294967296 = k by omega] at h3
        | 1, h1, h2 =>
          obtain rfl := Option.some.inj h1
          obtain rfl := Option.some.inj h2
          have h3 := PartIn.num (w := (w.alloc (.cells #[.iface 3 (.int .i64 k), .iface 3 (.int .i64 n), .iface 40 (.slice p n c)] 20))) n
          rwa [show (n : Int) % 4294967296 = n by omega] at h3
        | 2, h1, h2 =>
          obtain rfl := Option.some.inj h1
          obtain rfl := Option.some.inj h2
          exact PartIn.rows p n c vs HN.out (H.out.under ((Below.refl _ _).alloc (Nat.le_refl _) _) (Nat.le_refl _)) (by omega)
        | j + 3, h1, _ => cases h1)
      clear hR hn
      go_enter Tryd.func19, Tryd.ntmps19
      go_wp2_with fail
      by_cases h88 : ∀ r ∈ vs, r.2.2.length = 88
      · have hRe := HR.out
        rw [if_pos h88] at hRe
        subst hRe
        refine (laid_any _ 3 3 [_, _, _] [some (le4 k), some (le4 n), (if ∀ r ∈ vs, r.2.2.length = 88 then some (vs.map (·.2.2)).flatten else none)] (le4 k ++ (le4 n ++ flat vs)) _ (by rw [if_pos h88]; simp [layAll, flat]) rfl rfl (by decide) (lit_at w _ _) HPT.out).mono ?_
        rintro e w2 ⟨hb, v, rfl, hv⟩
        have HB2 := Lib.hid (below_call hb ((Below.refl _ _).alloc (Nat.le_refl _) _))
        have HV := Lib.hid (hv.low (Nat.le_trans (Nat.le_succ w.heap.size) (Nat.le_of_eq (World.size_alloc _ _).symm)))
        clear hb hv h88
        go_wp2
        exact ⟨rfl, .tuple #[v, .int .i64 0], by kernel_rfl, HB2.out, v, rfl, HV.out⟩
      · have hRe := HR.out
        rw [if_neg h88] at hRe
        subst hRe
        refine (laid_none _ 3 3 [_, _, _] [some (le4 k), some (le4 n), (if ∀ r ∈ vs, r.2.2.length = 88 then some (vs.map (·.2.2)).flatten else none)] _ (HH.out.keep ((Below.refl _ _).alloc (Nat.le_refl _) _)) (by rw [if_neg h88]; simp [layAll]) rfl rfl (by decide) (lit_at w _ _) HPT.out).mono ?_
        rintro e w2 ⟨hb, v, rfl, hv⟩
        have HB2 := Lib.hid (below_call hb ((Below.refl _ _).alloc (Nat.le_refl _) _))
        have HV := Lib.hid (hv.low (Nat.le_trans (Nat.le_succ w.heap.size) (Nat.le_of_eq (World.size_alloc _ _).symm)))
        clear hb hv h88
        go_wp2
        exact ⟨rfl, .tuple #[v, .int .i64 4], by kernel_rfl, HB2.out, v, rfl, HV.out⟩
    · rw [if_neg hl]
      have hl0 : (256 : Int) < n := by omega
      clear hn
      go_enter Tryd.func19, Tryd.ntmps19
      go_wp2
      exact ⟨rfl, .tuple #[.slice none 0 0, .int .i64 3], by kernel_rfl, Below.refl _ _, _, rfl, bts_nil _ _⟩
  · rw [frameQ, if_neg hk]
    clear hn
    go_enter Tryd.func19, Tryd.ntmps19
    by_cases hk0 : k < 1
    · clear hk
      go_wp2
      exact ⟨rfl, .tuple #[.slice none 0 0, .int .i64 201], by kernel_rfl, Below.refl _ _, _, rfl, bts_nil _ _⟩
    · have hk1 : 64 ≤ k := by omega
      clear hk
      go_wp2
      exact ⟨rfl, .tuple #[.slice none 0 0, .int .i64 201], by kernel_rfl, Below.refl _ _, _, rfl, bts_nil _ _⟩
set_option maxRecDepth 100000 in
theorem rdErr_any (g2 : Nat) (x : Value) (k : Int) (t : TypeId) (w : World) (h : w.heap[g2]? = some (.cells #[x, .int .i64 k] t (0, 0))) :
    Calls Tryd.prog 55 #[.pointer (some ⟨g2, 0, none⟩)] w (Gives (· = .int .i64 k) w) := by
  have c1 := row_cell h 1
  simp only [List.getElem?_toArray, List.getElem?_cons_zero, List.getElem?_cons_succ] at c1
  clear h
  go_enter Tryd.func55, Tryd.ntmps55
  go_wp2
  exact ⟨rfl, .int .i64 k, by kernel_rfl, _, rfl, rfl, Below.refl _ _⟩
set_option maxHeartbeats 4000000 in
set_option maxRecDepth 100000 in
theorem eqRows_same (p q : Option Addr) (n c d : Nat) (vs us : List (Option Addr × Nat × List Int)) (w : World) (hn : vs.length = n) (hu : us.length = n) (h : RowsIn w p vs) (h2 : RowsIn w q us) (hm : n ≤ 140737488355328)
    (he : ∀ (k : Nat) r s, vs[k]? = some r → us[k]? = some s → r.2.2 = s.2.2) (hl : ∀ r ∈ vs, r.2.2.length ≤ 140737488355328) :
    Calls Tryd.prog 26 #[.slice p n c, .slice q n d] w (Gives (· = .bool true) w) := by
  have H := Lib.hid h
  have H2 := Lib.hid h2
  have HN := Lib.hid hn
  have HU := Lib.hid hu
  have HE := Lib.hid he
  have HL := Lib.hid hl
  clear h h2 hn hu he hl
  go_enter Tryd.func26, Tryd.ntmps26
  go_wp2
  go_loopw [5] (fun i wr => ∃ k, k ≤ n ∧ i = .int .i64 (k : Nat) ∧ Below w.heap.size w wr) (fun i _ => n - (intOf i).toNat)
  case atStart => exact ⟨0, by omega, rfl, Below.refl _ _⟩
  case round =>
    obtain ⟨k, hk, rfl, hb⟩ := hrel
    have HB := Lib.hid hb
    clear hb
    by_cases hlt : k < n
    · obtain ⟨r, hr⟩ : ∃ r, vs[k]? = some r := ⟨_, List.getElem?_eq_getElem (by rw [HN.out]; exact hlt)⟩
      obtain ⟨s, hs⟩ : ∃ s, us[k]? = some s := ⟨_, List.getElem?_eq_getElem (by rw [HU.out]; exact hlt)⟩
      have hr0 := H.out.under HB.out (Nat.le_refl _)
      have hs0 := H2.out.under HB.out (Nat.le_refl _)
      obtain ⟨ad, rfl, ha, hc⟩ := hr0.1 k r hr
      obtain ⟨ad2, rfl, ha2, hc2⟩ := hs0.1 k s hs
      have HR := Lib.hid (hr0.2 r (List.mem_of_getElem? hr)).1
      have HSS := Lib.hid (hs0.2 s (List.mem_of_getElem? hs)).1
      have hrs := HE.out k r s hr hs
      have HLR := Lib.hid (HL.out r (List.mem_of_getElem? hr))
      clear hr hs hr0 hs0
      obtain ⟨rp, rc, rl⟩ := r
      obtain ⟨sp, sc, sl⟩ := s
      simp only at hrs HR HSS hc hc2 HLR
      subst hrs
      generalize hrn : rl.length = rn at hc hc2 HLR
      have HRN := Lib.hid hrn
      clear hrn
      have HC1 := Lib.hid (show ∀ w', Below wr.heap.size wr w' → w'.cell? (ad.add (k * 1)) = some (.slice rp rn rc) from fun w' hb => by
        rw [Nat.mul_one, ← hc]
        exact World.cell?_of_block (by rw [add_block]; exact hb.block _ ha))
      have HC2 := Lib.hid (show ∀ w', Below wr.heap.size wr w' → w'.cell? (ad2.add (k * 1)) = some (.slice sp rn sc) from fun w' hb => by
        rw [Nat.mul_one, ← hc2]
        exact World.cell?_of_block (by rw [add_block]; exact hb.block _ ha2))
      clear hc hc2 ha ha2
      go_wp2
      have hS := Own.start wr
      obtain ⟨M, hM⟩ : ∃ M, M = wr.heap.size := ⟨_, rfl⟩
      refine hide_frame fun t0 HT => ?_
      have HS : t0.size = 27 := by rw [HT]; rfl
      have h0 : t0[0]? = some (.slice (some ad) n c) := by rw [HT]; rfl
      have h1 : t0[1]? = some (.slice (some ad2) n d) := by rw [HT]; rfl
      have h5 : t0[5]? = some (.int .i64 k) := by rw [HT]; rfl
      refine wp_region_all 9 (fun i => [17, 18, 19, 20, 21, 22, 23, 24, 25, 26].getD i 0) (fun i => [(· = .slice (some ad) n c), (· = .int .i64 k), (· = .pointer (some (ad.add (k * 1)))), (· = .slice rp rn rc), (· = .slice (some ad2) n d), (· = .int .i64 k), (· = .pointer (some (ad2.add (k * 1)))), (· = .slice sp rn sc), (· = .bool true), (· = .bool false)].getD i (fun _ => True)) (fun w' => Own wr [] w' ∧ M ≤ w'.heap.size)
        (by kernel_rfl) (by kernel_rfl) (by kernel_rfl) (slots_apart (by kernel_rfl)) (slots_lie (by rw [HS]; kernel_rfl)) ⟨hS.drew, Nat.le_of_eq hM⟩ (fun w1 w2 h b => ⟨h.1.keep b, Nat.le_trans h.2 b.size⟩) ?_ ?_
      · clear hS
        intro i o hi ho
        have hc : i = 0 ∨ i = 1 ∨ i = 2 ∨ i = 3 ∨ i = 4 ∨ i = 5 ∨ i = 6 ∨ i = 7 ∨ i = 8 ∨ i = 9 := by omega
        rcases hc with rfl | rfl | rfl | rfl | rfl | rfl | rfl | rfl | rfl | rfl
        · obtain rfl := Option.some.inj ho
          refine ⟨rfl, fun a w' hS hold hin K hK => ?_⟩
          refine if_always rfl ?_
          exact op_move (V := (· = .slice (some ad) n c)) _ _ rfl rfl (eval_tmp ((hold 0 (slots_not (by kernel_rfl))).trans h0)) rfl hK
        · obtain rfl := Option.some.inj ho
          refine ⟨rfl, fun a w' hS hold hin K hK => ?_⟩
          refine if_always rfl ?_
          exact op_move (V := (· = .int .i64 k)) _ _ rfl rfl (eval_tmp ((hold 5 (slots_not (by kernel_rfl))).trans h5)) rfl hK
        · obtain rfl := Option.some.inj ho
          refine ⟨rfl, fun a w' hS hold hin K hK => ?_⟩
          obtain ⟨y0, x0, rfl⟩ := hin 0 rfl (by omega)
          obtain ⟨y1, x1, rfl⟩ := hin 1 rfl (by omega)
          refine if_always rfl ?_
          exact op_index 1 26 (by kernel_rfl) (by kernel_rfl) _ _ rfl rfl _ _ _ (eval_tmp x0) _ k (eval_tmp x1) hlt hK
        · obtain rfl := Option.some.inj ho
          refine ⟨rfl, fun a w' hS hold hin K hK => ?_⟩
          obtain ⟨y2, x2, rfl⟩ := hin 2 rfl (by omega)
          refine if_always rfl ?_
          exact op_cell tSl _ (ad.add (k * 1)) rfl rfl (eval_tmp x2) (.slice rp rn rc) (HC1.out _ hS.1.1) hK
        · obtain rfl := Option.some.inj ho
          refine ⟨rfl, fun a w' hS hold hin K hK => ?_⟩
          refine if_always rfl ?_
          exact op_move (V := (· = .slice (some ad2) n d)) _ _ rfl rfl (eval_tmp ((hold 1 (slots_not (by kernel_rfl))).trans h1)) rfl hK
        · obtain rfl := Option.some.inj ho
          refine ⟨rfl, fun a w' hS hold hin K hK => ?_⟩
          refine if_always rfl ?_
          exact op_move (V := (· = .int .i64 k)) _ _ rfl rfl (eval_tmp ((hold 5 (slots_not (by kernel_rfl))).trans h5)) rfl hK
        · obtain rfl := Option.some.inj ho
          refine ⟨rfl, fun a w' hS hold hin K hK => ?_⟩
          obtain ⟨y4, x4, rfl⟩ := hin 4 rfl (by omega)
          obtain ⟨y5, x5, rfl⟩ := hin 5 rfl (by omega)
          refine if_always rfl ?_
          exact op_index 1 26 (by kernel_rfl) (by kernel_rfl) _ _ rfl rfl _ _ _ (eval_tmp x4) _ k (eval_tmp x5) hlt hK
        · obtain rfl := Option.some.inj ho
          refine ⟨rfl, fun a w' hS hold hin K hK => ?_⟩
          obtain ⟨y6, x6, rfl⟩ := hin 6 rfl (by omega)
          refine if_always rfl ?_
          exact op_cell tSl _ (ad2.add (k * 1)) rfl rfl (eval_tmp x6) (.slice sp rn sc) (HC2.out _ hS.1.1) hK
        · obtain rfl := Option.some.inj ho
          refine ⟨rfl, fun a w' hS hold hin K hK => ?_⟩
          obtain ⟨y3, x3, rfl⟩ := hin 3 rfl (by omega)
          obtain ⟨y7, x7, rfl⟩ := hin 7 rfl (by omega)
          refine if_always rfl ?_
          exact op_fn2 _ _ _ _ _ _ rfl rfl (eval_tmp x3) (eval_tmp x7) (by intro args w; kernel_rfl) ((eqBytes_any rp sp rl rl rn rn rc sc _ HRN.out HRN.out (HR.out.keep hS.1.1) (HSS.out.keep hS.1.1) (by have := HLR.out; omega)).mono fun _ _ ⟨r, e1, e2, e3⟩ => ⟨r, e1, e2.trans (by rw [decide_eq_true rfl]), e3⟩) hK
        · obtain rfl := Option.some.inj ho
          refine ⟨rfl, fun a w' hS hold hin K hK => ?_⟩
          obtain ⟨y8, x8, rfl⟩ := hin 8 rfl (by omega)
          refine if_always rfl ?_
          exact op_un (V := (· = .bool false)) _ _ _ _ (.bool false) rfl rfl (eval_tmp x8) (fun w => by kernel_rfl) rfl hK
      clear hS
      intro t1 V1 hs hold hout hS
      have ef := frame_fill 10 (fun i => [17, 18, 19, 20, 21, 22, 23, 24, 25, 26].getD i 0) hs hold (slots_apart (by kernel_rfl)) (slots_lie (by rw [HS]; kernel_rfl))
      replace HS := hs.trans HS
      replace hS := hS.1
      obtain ⟨_, q26, rfl⟩ : ∃ x, t1[26]? = some x ∧ x = (.bool false : Value) := hout 9 (by omega)
      replace h0 := (hold 0 (slots_not (by kernel_rfl))).trans h0
      replace h1 := (hold 1 (slots_not (by kernel_rfl))).trans h1
      replace h5 := (hold 5 (slots_not (by kernel_rfl))).trans h5
      clear hold hout hs
      have g26 : t1.getD 26 undef = .bool false := by rw [Array.getD_eq_getD_getElem?, q26]; rfl
      rw [ef, HT]
      clear ef
      simp only [fillA, if_true, List.getD_cons_zero, List.getD_cons_succ, List.setIfInBounds_toArray, List.set_cons_zero, List.set_cons_succ, g26]
      generalize t1.getD 17 undef = z17
      generalize t1.getD 18 undef = z18
      generalize t1.getD 19 undef = z19
      generalize t1.getD 20 undef = z20
      generalize t1.getD 21 undef = z21
      generalize t1.getD 22 undef = z22
      generalize t1.getD 23 undef = z23
      generalize t1.getD 24 undef = z24
      generalize t1.getD 25 undef = z25
      clear g26 HT
      clear h0 h1 h5 q26 hM HS t1 t0 M
      have HB3 := Lib.hid (below_call hS.1 HB.out)
      clear hS
      go_wp2
      go_roundw
      case rel => exact ⟨k + 1, by omega, by go_num, HB3.out⟩
      case measure => simp [intOf]; omega
    · go_wp2
      exact ⟨rfl, .bool true, by kernel_rfl, _, rfl, rfl, HB.out⟩
set_option maxRecDepth 100000 in
theorem take_short (g2 m c k : Nat) (p : Option Addr) (t : TypeId) (w : World) (h : w.heap[g2]? = some (.cells #[.slice p m c, .int .i64 0] t (0, 0))) (hk : m < k) (_hm : k ≤ 9223372036854775807) :
    Calls Tryd.prog 70 #[.pointer (some ⟨g2, 0, none⟩), .int .i64 k] w fun e w' => e = .returned (.slice none 0 0) ∧ w' = w.setCell ⟨g2, 1, none⟩ (.int .i64 20) := by
  have c0 := row_cell h 0
  have c1 := row_cell h 1
  have f1 := row_free h 1
  simp only [List.getElem?_toArray, List.getElem?_cons_zero, List.getElem?_cons_succ] at c0 c1
  clear h
  go_enter Tryd.func70, Tryd.ntmps70
  go_wp2
  exact ⟨rfl, .slice none 0 0, by kernel_rfl, rfl, rfl⟩
set_option maxRecDepth 100000 in
theorem take_err (g2 : Nat) (x : Value) (k q : Int) (t : TypeId) (w : World) (h : w.heap[g2]? = some (.cells #[x, .int .i64 q] t (0, 0))) (hq : ¬ q = 0) :
    Calls Tryd.prog 70 #[.pointer (some ⟨g2, 0, none⟩), .int .i64 k] w fun e w' => e = .returned (.slice none 0 0) ∧ w' = w := by
  have c1 := row_cell h 1
  simp only [List.getElem?_toArray, List.getElem?_cons_zero, List.getElem?_cons_succ] at c1
  clear h
  go_enter Tryd.func70, Tryd.ntmps70
  go_wp2
  exact ⟨rfl, .slice none 0 0, by kernel_rfl, rfl, rfl⟩
set_option maxRecDepth 100000 in
theorem low_nil (w : World) : Calls Tryd.prog 69 #[.slice none 0 0] w (Gives (· = .int .u32 0) w) := by
  go_enter Tryd.func69, Tryd.ntmps69
  go_wp2
  refine wp_loop_rounds 1 ?_
  rw [rounds_succ]
  go_wp2
  exact ⟨rfl, .int .u32 0, by kernel_rfl, _, rfl, rfl, Below.refl _ _⟩
set_option maxHeartbeats 4000000 in
set_option maxRecDepth 100000 in
theorem u32_short (g2 m c : Nat) (p : Option Addr) (t : TypeId) (w : World) (h : w.heap[g2]? = some (.cells #[.slice p m c, .int .i64 0] t (0, 0))) (hk : m < 4) :
    Calls Tryd.prog 54 #[.pointer (some ⟨g2, 0, none⟩)] w fun e w' => e = .returned (.int .u32 0) ∧ Below w.heap.size (w.setCell ⟨g2, 1, none⟩ (.int .i64 20)) w' := by
  have HT := Lib.hid (take_short g2 m c 4 p t w h hk (by decide))
  have HSZ := Lib.hid (show (w.setCell ⟨g2, 1, none⟩ (.int .i64 20)).heap.size = w.heap.size by rw [World.size_setCell])
  clear h hk
  go_enter Tryd.func54, Tryd.ntmps54
  go_wp2_with first
    | (go_at_call 70; refine HT.out.mono ?_; rintro e w2 ⟨rfl, hw2⟩; have HW := Lib.hid hw2; clear hw2)
    | (go_at_call 69; refine (low_nil _).mono ?_; rintro e w3 ⟨_, rfl, rfl, hb⟩; have HB := Lib.hid hb; clear hb)
  exact ⟨rfl, .int .u32 0, by kernel_rfl, rfl, by have h1 := HB.out; rw [HW.out, HSZ.out] at h1; exact h1⟩
set_option maxHeartbeats 4000000 in
set_option maxRecDepth 100000 in
theorem u32_err (g2 : Nat) (x : Value) (q : Int) (t : TypeId) (w : World) (h : w.heap[g2]? = some (.cells #[x, .int .i64 q] t (0, 0))) (hq : ¬ q = 0) :
    Calls Tryd.prog 54 #[.pointer (some ⟨g2, 0, none⟩)] w (Gives (· = .int .u32 0) w) := by
  have HT := Lib.hid (take_err g2 x 4 q t w h hq)
  clear h hq
  go_enter Tryd.func54, Tryd.ntmps54
  go_wp2_with first
    | (go_at_call 70; refine HT.out.mono ?_; rintro e w2 ⟨rfl, hw2⟩; have HW := Lib.hid hw2; clear hw2)
    | (go_at_call 69; refine (low_nil _).mono ?_; rintro e w3 ⟨_, rfl, rfl, hb⟩; have HB := Lib.hid hb; clear hb)
  exact ⟨rfl, .int .u32 0, by kernel_rfl, _, rfl, rfl, HW.out ▸ HB.out⟩
set_option maxHeartbeats 4000000 in
set_option maxRecDepth 100000 in
theorem newReaderE_any (p : Option Addr) (l : List Int) (n c : Nat) (w : World) (hn : l.length = n) (h : BytesIn w p l) (hp : p = none → c = 0) (hm : n ≤ 140737488355328) :
    Calls Tryd.prog 53 #[.slice p n c] w (NewReader w l n) := by
  have hmk : ∀ u : World, (Instr.makeSlice 26 (.int .i64 (n : Int)) (.int .i64 (n : Int))).run Tryd.prog u = .ok (.slice (some ⟨u.heap.size, 0, none⟩) n n) (u.alloc (.cells (vals (List.replicate n 0)) 5)) := fun u => run_make_bts u n n (Nat.le_refl _) (by omega)
  have HC := Lib.hid (show ∀ ty, (Builtin.copy_ #[26, 26] ty #[.slice (some ⟨w.heap.size, 0, none⟩) n n, .slice p n c]).run Tryd.prog (w.alloc (.cells (vals (List.replicate n 0)) 5)) = .ok (goInt n) (w.alloc (.cells (vals l) 5)) from fun ty => by
    have h1 := run_copy_bts (k := n) ty hn h hp n (Nat.le_refl _)
    rwa [Nat.sub_self, List.replicate_zero, List.append_nil] at h1)
  clear h hp hn
  go_enter Tryd.func53, Tryd.ntmps53
  go_wp2_with ((with_reducible refine guard_list ?_); first | (refine held_copy _ _ rfl ?_))
  refine wpList_step fun K hK => if_always rfl ?_
  refine wp_copy_run _ _ _ _ rfl rfl rfl (HC.out _) (hK _ _ ?_)
  go_wp2
  exact ⟨rfl, .pointer (some ⟨w.heap.size + 1, 0, none⟩), by kernel_rfl, by go_grown, w.heap.size, w.heap.size + 1, _, _, rfl, by omega, by omega, by omega, new2_0 .., new2_1 ..⟩
/-- The k-th row of a frame; the first k of them. -/
def rowAt (b : List Int) (i : Nat) : List Int := (b.drop (8 + 88 * i)).take 88
def rowsOf (b : List Int) (k : Nat) : List (List Int) := (List.range k).map (rowAt b)
theorem rowsOf_succ (b : List Int) (k : Nat) : rowsOf b (k + 1) = rowsOf b k ++ [rowAt b k] := by simp [rowsOf, List.range_succ]
/-- Is this a frame? -/
def fok (b : List Int) : Prop := 8 ≤ b.length ∧ 1 ≤ num (b.take 4) ∧ num (b.take 4) < 64 ∧ num ((b.drop 4).take 4) ≤ 256 ∧ (b.length : Int) = 8 + 88 * num ((b.drop 4).take 4)
instance (b : List Int) : Decidable (fok b) := inferInstanceAs (Decidable (_ ∧ _))
/-- A frame, read. -/
def frameP (b : List Int) : Int × List (List Int) × Int := if fok b then (num (b.take 4), rowsOf b (num ((b.drop 4).take 4)).toNat, 0) else (0, [], 202)
/-- Slices of bytes, all of the call's own, each in a block of its own. -/
def FrV (w : World) (B : Nat) (v : Value) (vs : List Row1) : Prop := RowsOwn w B v vs ∧ (∀ r ∈ vs, Bts w B (rowV r) r.2.2) ∧ vs.Pairwise fun r s => pb r.1 = none ∨ pb r.1 ≠ pb s.1
theorem frv_nil (w : World) (B : Nat) : FrV w B (.slice none 0 0) [] := ⟨rowsOwn_nil w B, (fun r h => by cases h), List.Pairwise.nil⟩
/-- What a parser of a number and lists hands back. -/
def AnsR (w : World) (y : Int) (ls : List (List Int)) (k : Int) (e : Ending) (w' : World) : Prop := Below w.heap.size w w' ∧ ∃ v vs, e = .returned (.tuple #[.int .i64 y, v, .int .i64 k]) ∧ FrV w' w.heap.size v vs ∧ vs.map (·.2.2) = ls
theorem rowV_own (r : Row1) : (rowV r).ownBlock = pb r.1 := pb_own _ _ _
theorem FrV.low {w : World} {B B' : Nat} {v : Value} {vs : List Row1} (h : FrV w B v vs) (hB : B' ≤ B) : FrV w B' v vs := by
  refine ⟨⟨⟨h.1.1.1, ?_⟩, h.1.2⟩, fun r hr => (h.2.1 r hr).low hB, h.2.2⟩
  rcases h.1.1.2 with h' | ⟨g, c, cur, e, hb, r⟩
  · exact .inl h'
  · exact .inr ⟨g, c, cur, e, Nat.le_trans hB hb, r⟩
theorem FrV.far {w w' : World} {B : Nat} {v : Value} {vs : List Row1} {row : Option Nat} (h : FrV w B v vs) (hg : w.grownBy w' row) (hne : ∀ x, row = some x → x < B) : FrV w' B v vs := by
  refine ⟨⟨World.ownsRow.kept h.1.1 hg ?_, fun r hr => ⟨(h.1.2 r hr).1.far hg fun a ha e => ?_, (h.1.2 r hr).2⟩⟩, fun r hr => (h.2.1 r hr).kept hg ?_, h.2.2⟩
  · cases e : v.ownBlock with
    | none => exact .inl rfl
    | some k => exact .inr fun e2 => by have h1 := (h.1.lt k e).1; have h2 := hne k e2.symm; omega
  · have h1 := ((h.2.1 r hr).lt a.block (by rw [rowV_own, ha]; rfl)).1
    have h2 := hne _ e.symm
    omega
  · cases e : (rowV r).ownBlock with
    | none => exact .inl rfl
    | some k => exact .inr fun e2 => by have h1 := ((h.2.1 r hr).lt k e).1; have h2 := hne k e2.symm; omega
theorem FrV.under {w w' : World} {B : Nat} {v : Value} {vs : List Row1} (h : FrV w B v vs) (hb : Below w.heap.size w w') : FrV w' B v vs := h.far (grown_of_below hb none) fun x hx => by cases hx
theorem grown_set {w w' : World} {g o : Nat} {u : Value} (h : Below w.heap.size (w.setCell ⟨g, o, none⟩ u) w') : w.grownBy w' (some g) :=
  ⟨h.os, h.tape, h.output, by have := h.size; rwa [World.size_setCell] at this, fun k hk hne => (h.block k hk).trans (heap_setCell_other w ⟨g, o, none⟩ k u fun e => hne (by rw [e]))⟩
section
variable {o : Oper} {w : World} {a : Act} {Q : Exit → Act → World → Prop} {ops : Array Oper} {rest : List Oper}
/-- append(v, r), the literal laid just before: slices each in a block of its own. -/
theorem wpList_appF {B : Nat} {v : Value} {vs : List Row1} (r : Row1) (x y : Operand) (hgd : o.guard = none) (ho : o.op = .call { callee := .builtin .append, args := #[x, y], argTypes := #[40, 40] }) (hx : a.eval x = v) (hy : a.eval y = .slice (some ⟨w.heap.size, 0, none⟩) 1 1)
    (hB : B ≤ w.heap.size) (hv : FrV w B v vs) (hr : Bts w B (rowV r) r.2.2) (hel : El1 w r) (hfar : ∀ a, r.1 = some a → some a.block ≠ v.ownBlock) (hpw : ∀ s ∈ vs, pb s.1 = none ∨ pb s.1 ≠ pb r.1) (hbig : vs.length + 1 ≤ 4398046511104)
    (hK : ∀ v' w', FrV w' B v' (vs ++ [r]) → w.grownBy w' v.ownBlock → wpList Tryd.prog ops Q rest (a.put o.dst v') w') : wpList Tryd.prog ops Q (o :: rest) a (w.alloc (.cells #[rowV r] 26)) := by
  obtain ⟨ie, hie, hz, hs, hb⟩ := slice_info
  have hsz : w.heap.size ≤ (w.alloc (.cells #[rowV r] 26)).heap.size := by simp
  obtain ⟨v', w', h3, h4, h5, _, h6⟩ := run_append_own_at (P := Tryd.prog) (w.alloc (.cells #[rowV r] 26)) B 40 o.type 26 ie (.slice none 0 0) 1 24 Tryd.underlying40 hie hz hs hb rfl (by decide) v vs.length _ (World.ownsRow.alloc hv.1.1 _) ⟨w.heap.size, 0, none⟩ 1 1 [rowV r] rfl (fun j u hj => by
    rw [add_lit, cell_of_row _ _ j _ _ _ (heap_alloc_new w _)]
    simpa using hj) (by simp [rowV, Value.oneCell']) (by simp only [maxLen]; omega) (by omega) (Nat.le_trans hB hsz)
  have h5' : w.grownBy w' v.ownBlock := ⟨h5.os, h5.tape, h5.output, Nat.le_trans hsz h5.size, fun k hk hne => (h5.block k (Nat.lt_of_lt_of_le hk hsz) hne).trans (Below.heap_alloc w _ k hk)⟩
  have h7 : v'.ownBlock = v.ownBlock ∨ ∃ k, v'.ownBlock = some k ∧ w.heap.size ≤ k := h6.imp id fun e => ⟨_, e, hsz⟩
  have hne : ∀ q : Row1, El1 w q → (∀ a, q.1 = some a → some a.block ≠ v.ownBlock) → El1 w' q ∧ ∀ a, q.1 = some a → some a.block ≠ v'.ownBlock := fun q hq hf => ⟨hq.far h5' hf, fun a ha e => by
    rcases h7 with h7 | ⟨k, h7, hk⟩
    · exact hf a ha (e.trans h7)
    · rw [h7] at e
      injection e with e
      have := hq.2.2 a ha
      omega⟩
  have hbt : ∀ q : Row1, Bts w B (rowV q) q.2.2 → (∀ a, q.1 = some a → some a.block ≠ v.ownBlock) → Bts w' B (rowV q) q.2.2 := fun q hq hf => hq.kept h5' (by
    rw [rowV_own]
    cases e : q.1 with
    | none => exact .inl rfl
    | some a => exact .inr (hf a e))
  refine wpList_step fun K hKK => if_always hgd (wp_append_run x y _ ho hx hy h3 (hKK _ _ (hK v' w' ⟨⟨by rw [List.length_append, List.map_append]; exact h4, fun q hq => ?_⟩, fun q hq => ?_, ?_⟩ h5')))
  · rcases List.mem_append.1 hq with hq | hq
    · exact hne q (hv.1.2 q hq).1 (hv.1.2 q hq).2
    · simp only [List.mem_singleton] at hq
      subst hq
      exact hne q hel hfar
  · rcases List.mem_append.1 hq with hq | hq
    · exact hbt q (hv.2.1 q hq) (hv.1.2 q hq).2
    · simp only [List.mem_singleton] at hq
      subst hq
      exact hbt q hr hfar
  · refine List.pairwise_append.2 ⟨hv.2.2, List.pairwise_singleton _ _, fun s hs q hq => ?_⟩
    simp only [List.mem_singleton] at hq
    subst hq
    exact hpw s hs
end
theorem row_setCell1 {w : World} {g : Nat} {x y v : Value} {t : TypeId} (h : w.heap[g]? = some (.cells #[x, y] t (0, 0))) : (w.setCell ⟨g, 1, none⟩ v).heap[g]? = some (.cells #[x, v] t (0, 0)) := by
  rw [heap_setCell_same w g 1 _ _ v h]
  rfl
theorem row_near1 {w1 w3 : World} {g2 : Nat} {x y v : Value} {t : TypeId} (h : w1.heap[g2]? = some (.cells #[x, y] t (0, 0))) (hu : Below w1.heap.size (w1.setCell ⟨g2, 1, none⟩ v) w3) : w3.heap[g2]? = some (.cells #[x, v] t (0, 0)) := by
  rw [hu.block g2 (Array.getElem?_eq_some_iff.1 h).1]
  exact row_setCell1 h
theorem frameP_bad {b : List Int} (h : ¬ fok b) : frameP b = (0, [], 202) := by rw [frameP, if_neg h]
theorem frameP_ok {b : List Int} {q : Int} {m : Nat} (h : fok b) (hq : q = num (b.take 4)) (hm : (m : Int) = num ((b.drop 4).take 4)) : frameP b = (q, rowsOf b m, 0) := by
  rw [frameP, if_pos h, ← hq, ← hm]
  rfl
set_option maxHeartbeats 4000000 in
set_option maxRecDepth 100000 in
theorem parseFrame_any (p : Option Addr) (n c : Nat) (b : List Int) (w : World) (hn : b.length = n) (hbb : Byt b) (h : BytesIn w p b) (hp : p = none → c = 0) (hmx : n ≤ 140737488355328) :
    Calls Tryd.prog 24 #[.slice p n c] w (AnsR w (frameP b).1 (frameP b).2.1 (frameP b).2.2) := by
  have H := Lib.hid h
  have HN := Lib.hid hn
  have HP := Lib.hid hp
  have HBB := Lib.hid hbb
  have HMX := Lib.hid hmx
  have HNR := Lib.hid (newReaderE_any p b n c w hn h hp hmx)
  clear h hn hp hbb hmx
  by_cases h4 : n < 4
  · rw [frameP_bad (fun hf => by have := hf.1; have := HN.out; omega)]
    have T1 : True := trivial
    go_enter Tryd.func24, Tryd.ntmps24
    go_wp2_with first
      | (go_at_call 53; refine HNR.out.mono ?_; rintro e w1 ⟨hb, g1, g2, t1, t2, rfl, hne, hge1, hge2, hr1, hr2⟩; have HB := Lib.hid hb; have HG2 := Lib.hid hge2; have HR2 := Lib.hid hr2; clear hb hne hge1 hge2 hr1 hr2)
      | (go_at_call 54; refine ((fun (_ : True) => u32_short g2 n n _ t2 _ HR2.out h4) T1).mono ?_; rintro e w2 ⟨rfl, hb⟩; have HR3 := Lib.hid (row_near1 HR2.out hb); have HB2 := Lib.hid ((Below.setCell (p := ⟨g2, 1, none⟩) HB.out HG2.out _).trans (hb.mono HB.out.size)); clear hb T1)
      | (go_at_call 54; refine (u32_err g2 _ 20 t2 _ HR3.out (by decide)).mono ?_; rintro e w3 ⟨_, rfl, rfl, hb⟩; have HR4 := Lib.hid (row_call hb HR3.out); have HB3 := Lib.hid (below_call hb HB2.out); clear hb)
      | (go_at_call 55; refine (rdErr_any g2 _ 20 t2 _ HR4.out).mono ?_; rintro e w4 ⟨_, rfl, rfl, hb⟩; have HB4 := Lib.hid (below_call hb HB3.out); clear hb)
    exact ⟨rfl, .tuple #[.int .i64 0, .slice none 0 0, .int .i64 202], by kernel_rfl, HB4.out, _, [], rfl, frv_nil _ _, rfl⟩
  · have hmx := HMX.out
    have hn := HN.out
    have hl4 : (b.take 4).length = 4 := by rw [List.length_take]; omega
    have hb4 : Byt (b.take 4) := HBB.out.take 4
    obtain ⟨q, hq⟩ : ∃ q, q = num (b.take 4) := ⟨_, rfl⟩
    have hqb := num4 HBB.out
    rw [← hq] at hqb
    have HL4 := Lib.hid hl4
    have HB4 := Lib.hid hb4
    have HQ := Lib.hid hq
    have h4' : 4 ≤ n := by omega
    clear h4
    have h4 := h4'
    clear h4' hl4 hb4 hn
    by_cases h8 : n < 8
    · rw [frameP_bad (fun hf => by have := hf.1; have := HN.out; omega)]
      have T1 : True := trivial
      clear hq
      go_enter Tryd.func24, Tryd.ntmps24
      go_wp2_with first
        | (go_at_call 53; refine HNR.out.mono ?_; rintro e w1 ⟨hb, g1, g2, t1, t2, rfl, hne, hge1, hge2, hr1, hr2⟩; have HB := Lib.hid hb; have HG1 := Lib.hid hge1; have HG2 := Lib.hid hge2; have HNE := Lib.hid hne; have HR1 := Lib.hid hr1; have HR2 := Lib.hid hr2; clear hb hne hge1 hge2 hr1 hr2)
        | (go_at_call 54; refine ((fun (_ : True) => u32_any g1 g2 0 n n t2 (b.take 4) _ HR2.out h4 (Nat.le_refl _) (by omega) HL4.out HB4.out (BytesIn.vals 0 HR1.out (by rw [List.drop_zero, HL4.out])) HNE.out) T1).mono ?_; rintro e w2 ⟨rfl, hb⟩; rw [← HQ.out]; have HR3 := Lib.hid (row_near HR2.out hb); have HR5 := Lib.hid (row_far HR1.out hb HNE.out); have HB2 := Lib.hid ((Below.setCell (p := ⟨g2, 0, none⟩) HB.out HG2.out _).trans (hb.mono HB.out.size)); have HS2 := Lib.hid (show g1 < w2.heap.size ∧ g2 < w2.heap.size from ⟨(Array.getElem?_eq_some_iff.1 HR5.out).1, (Array.getElem?_eq_some_iff.1 HR3.out).1⟩); clear hb T1)
        | (go_at_call 54; refine (u32_short g2 (n - 4) (n - 4) _ t2 _ HR3.out (by omega)).mono ?_; rintro e w3 ⟨rfl, hb⟩; have HR4 := Lib.hid (row_near1 HR3.out hb); have HB3 := Lib.hid ((Below.setCell (p := ⟨g2, 1, none⟩) HB2.out HG2.out _).trans (hb.mono HB2.out.size)); clear hb)
        | (go_at_call 55; refine (rdErr_any g2 _ 20 t2 _ HR4.out).mono ?_; rintro e w4 ⟨_, rfl, rfl, hb⟩; have HB4 := Lib.hid (below_call hb HB3.out); clear hb)
      exact ⟨rfl, .tuple #[.int .i64 0, .slice none 0 0, .int .i64 202], by kernel_rfl, HB4.out, _, [], rfl, frv_nil _ _, rfl⟩
    · have h8' : 8 ≤ n := by omega
      have hl8 : ((b.drop 4).take 4).length = 4 := by rw [List.length_take, List.length_drop, HN.out]; omega
      have hb8 : Byt ((b.drop 4).take 4) := (HBB.out.drop 4).take 4
      have hmb := num4 (HBB.out.drop 4)
      obtain ⟨m, hm⟩ : ∃ m : Nat, (m : Int) = num ((b.drop 4).take 4) := ⟨(num ((b.drop 4).take 4)).toNat, by omega⟩
      rw [← hm] at hmb
      have HL8 := Lib.hid hl8
      have HB8 := Lib.hid hb8
      have HM := Lib.hid hm
      have hm32 : (m : Int) % 4294967296 = m := by omega
      have h44 : ¬ n = 4 := by omega
      clear hl8 hb8 h8
      have T1 : True := trivial
      by_cases hq1 : q < 1
      · rw [frameP_bad (fun hf => by have h1 := hf.2; rw [← hq, ← hm, HN.out] at h1; omega)]
        clear hq hm
        go_enter Tryd.func24, Tryd.ntmps24
        go_wp2_with first
          | (go_at_call 53; refine HNR.out.mono ?_; rintro e w1 ⟨hb, g1, g2, t1, t2, rfl, hne, hge1, hge2, hr1, hr2⟩; have HB := Lib.hid hb; have HG1 := Lib.hid hge1; have HG2 := Lib.hid hge2; have HNE := Lib.hid hne; have HR1 := Lib.hid hr1; have HR2 := Lib.hid hr2; clear hb hne hge1 hge2 hr1 hr2)
          | (go_at_call 54; refine ((fun (_ : True) => u32_any g1 g2 0 n n t2 (b.take 4) _ HR2.out h4 (Nat.le_refl _) (by omega) HL4.out HB4.out (BytesIn.vals 0 HR1.out (by rw [List.drop_zero, HL4.out])) HNE.out) T1).mono ?_; rintro e w2 ⟨rfl, hb⟩; rw [← HQ.out]; rw [if_neg h44, Nat.zero_add] at hb; have HR3 := Lib.hid (row_near HR2.out hb); have HR5 := Lib.hid (row_far HR1.out hb HNE.out); have HB2 := Lib.hid ((Below.setCell (p := ⟨g2, 0, none⟩) HB.out HG2.out _).trans (hb.mono HB.out.size)); have HS2 := Lib.hid (show g1 < w2.heap.size ∧ g2 < w2.heap.size from ⟨(Array.getElem?_eq_some_iff.1 HR5.out).1, (Array.getElem?_eq_some_iff.1 HR3.out).1⟩); clear hb T1)
          | (go_at_call 54; refine (u32_any g1 g2 4 (n - 4) (n - 4) t2 ((b.drop 4).take 4) _ HR3.out (by omega) (Nat.le_refl _) (by omega) HL8.out HB8.out (BytesIn.vals 4 HR5.out (by rw [HL8.out])) HNE.out).mono ?_; rintro e w3 ⟨rfl, hb⟩; rw [← HM.out]; have HR4 := Lib.hid (row_near HR3.out hb); have HR6 := Lib.hid (row_far HR5.out hb HNE.out); have HB3 := Lib.hid ((Below.setCell (p := ⟨g2, 0, none⟩) HB2.out HG2.out _).trans (hb.mono HB2.out.size)); have HS3 := Lib.hid (show g1 < w3.heap.size ∧ g2 < w3.heap.size from ⟨(Array.getElem?_eq_some_iff.1 HR6.out).1, (Array.getElem?_eq_some_iff.1 HR4.out).1⟩); clear hb)
          | (go_at_call 55; refine (rdErr_any g2 _ 0 t2 _ HR4.out).mono ?_; rintro e w4 ⟨_, rfl, rfl, hb⟩; have HR7 := Lib.hid (row_call hb HR4.out); have HR8 := Lib.hid (row_call hb HR6.out); have HB4 := Lib.hid (below_call hb HB3.out); clear hb)
        exact ⟨rfl, .tuple #[.int .i64 0, .slice none 0 0, .int .i64 202], by kernel_rfl, HB4.out, _, [], rfl, frv_nil _ _, rfl⟩
      · have hq1' : 1 ≤ q := by omega
        by_cases hq2 : 64 ≤ q
        · rw [frameP_bad (fun hf => by have h1 := hf.2; rw [← hq, ← hm, HN.out] at h1; omega)]
          clear hq hm
          go_enter Tryd.func24, Tryd.ntmps24
          go_wp2_with first
            | (go_at_call 53; refine HNR.out.mono ?_; rintro e w1 ⟨hb, g1, g2, t1, t2, rfl, hne, hge1, hge2, hr1, hr2⟩; have HB := Lib.hid hb; have HG1 := Lib.hid hge1; have HG2 := Lib.hid hge2; have HNE := Lib.hid hne; have HR1 := Lib.hid hr1; have HR2 := Lib.hid hr2; clear hb hne hge1 hge2 hr1 hr2)
            | (go_at_call 54; refine ((fun (_ : True) => u32_any g1 g2 0 n n t2 (b.take 4) _ HR2.out h4 (Nat.le_refl _) (by omega) HL4.out HB4.out (BytesIn.vals 0 HR1.out (by rw [List.drop_zero, HL4.out])) HNE.out) T1).mono ?_; rintro e w2 ⟨rfl, hb⟩; rw [← HQ.out]; rw [if_neg h44, Nat.zero_add] at hb; have HR3 := Lib.hid (row_near HR2.out hb); have HR5 := Lib.hid (row_far HR1.out hb HNE.out); have HB2 := Lib.hid ((Below.setCell (p := ⟨g2, 0, none⟩) HB.out HG2.out _).trans (hb.mono HB.out.size)); have HS2 := Lib.hid (show g1 < w2.heap.size ∧ g2 < w2.heap.size from ⟨(Array.getElem?_eq_some_iff.1 HR5.out).1, (Array.getElem?_eq_some_iff.1 HR3.out).1⟩); clear hb T1)
            | (go_at_call 54; refine (u32_any g1 g2 4 (n - 4) (n - 4) t2 ((b.drop 4).take 4) _ HR3.out (by omega) (Nat.le_refl _) (by omega) HL8.out HB8.out (BytesIn.vals 4 HR5.out (by rw [HL8.out])) HNE.out).mono ?_; rintro e w3 ⟨rfl, hb⟩; rw [← HM.out]; have HR4 := Lib.hid (row_near HR3.out hb); have HR6 := Lib.hid (row_far HR5.out hb HNE.out); have HB3 := Lib.hid ((Below.setCell (p := ⟨g2, 0, none⟩) HB2.out HG2.out _).trans (hb.mono HB2.out.size)); have HS3 := Lib.hid (show g1 < w3.heap.size ∧ g2 < w3.heap.size from ⟨(Array.getElem?_eq_some_iff.1 HR6.out).1, (Array.getElem?_eq_some_iff.1 HR4.out).1⟩); clear hb)
            | (go_at_call 55; refine (rdErr_any g2 _ 0 t2 _ HR4.out).mono ?_; rintro e w4 ⟨_, rfl, rfl, hb⟩; have HR7 := Lib.hid (row_call hb HR4.out); have HR8 := Lib.hid (row_call hb HR6.out); have HB4 := Lib.hid (below_call hb HB3.out); clear hb)
          exact ⟨rfl, .tuple #[.int .i64 0, .slice none 0 0, .int .i64 202], by kernel_rfl, HB4.out, _, [], rfl, frv_nil _ _, rfl⟩
        · have hq2' : q < 64 := by omega
          by_cases hm1 : 256 < m
          · rw [frameP_bad (fun hf => by have h1 := hf.2; rw [← hq, ← hm, HN.out] at h1; omega)]
            clear hq hm
            go_enter Tryd.func24, Tryd.ntmps24
            go_wp2_with first
              | (go_at_call 53; refine HNR.out.mono ?_; rintro e w1 ⟨hb, g1, g2, t1, t2, rfl, hne, hge1, hge2, hr1, hr2⟩; have HB := Lib.hid hb; have HG1 := Lib.hid hge1; have HG2 := Lib.hid hge2; have HNE := Lib.hid hne; have HR1 := Lib.hid hr1; have HR2 := Lib.hid hr2; clear hb hne hge1 hge2 hr1 hr2)
              | (go_at_call 54; refine ((fun (_ : True) => u32_any g1 g2 0 n n t2 (b.take 4) _ HR2.out h4 (Nat.le_refl _) (by omega) HL4.out HB4.out (BytesIn.vals 0 HR1.out (by rw [List.drop_zero, HL4.out])) HNE.out) T1).mono ?_; rintro e w2 ⟨rfl, hb⟩; rw [← HQ.out]; rw [if_neg h44, Nat.zero_add] at hb; have HR3 := Lib.hid (row_near HR2.out hb); have HR5 := Lib.hid (row_far HR1.out hb HNE.out); have HB2 := Lib.hid ((Below.setCell (p := ⟨g2, 0, none⟩) HB.out HG2.out _).trans (hb.mono HB.out.size)); have HS2 := Lib.hid (show g1 < w2.heap.size ∧ g2 < w2.heap.size from ⟨(Array.getElem?_eq_some_iff.1 HR5.out).1, (Array.getElem?_eq_some_iff.1 HR3.out).1⟩); clear hb T1)
              | (go_at_call 54; refine (u32_any g1 g2 4 (n - 4) (n - 4) t2 ((b.drop 4).take 4) _ HR3.out (by omega) (Nat.le_refl _) (by omega) HL8.out HB8.out (BytesIn.vals 4 HR5.out (by rw [HL8.out])) HNE.out).mono ?_; rintro e w3 ⟨rfl, hb⟩; rw [← HM.out]; have HR4 := Lib.hid (row_near HR3.out hb); have HR6 := Lib.hid (row_far HR5.out hb HNE.out); have HB3 := Lib.hid ((Below.setCell (p := ⟨g2, 0, none⟩) HB2.out HG2.out _).trans (hb.mono HB2.out.size)); have HS3 := Lib.hid (show g1 < w3.heap.size ∧ g2 < w3.heap.size from ⟨(Array.getElem?_eq_some_iff.1 HR6.out).1, (Array.getElem?_eq_some_iff.1 HR4.out).1⟩); clear hb)
              | (go_at_call 55; refine (rdErr_any g2 _ 0 t2 _ HR4.out).mono ?_; rintro e w4 ⟨_, rfl, rfl, hb⟩; have HR7 := Lib.hid (row_call hb HR4.out); have HR8 := Lib.hid (row_call hb HR6.out); have HB4 := Lib.hid (below_call hb HB3.out); clear hb)
            exact ⟨rfl, .tuple #[.int .i64 0, .slice none 0 0, .int .i64 202], by kernel_rfl, HB4.out, _, [], rfl, frv_nil _ _, rfl⟩
          · have hm1' : m ≤ 256 := by omega
            by_cases hn1 : ¬ (n : Int) = 8 + (m : Int) * 88
            · rw [frameP_bad (fun hf => by have h1 := hf.2; rw [← hq, ← hm, HN.out] at h1; omega)]
              have hnb : ((n : Int) != 8 + (m : Int) * 88) = true := by rw [bne_iff_ne]; exact hn1
              clear hq hm
              go_enter Tryd.func24, Tryd.ntmps24
              go_wp2_with first
                | (go_at_call 53; refine HNR.out.mono ?_; rintro e w1 ⟨hb, g1, g2, t1, t2, rfl, hne, hge1, hge2, hr1, hr2⟩; have HB := Lib.hid hb; have HG1 := Lib.hid hge1; have HG2 := Lib.hid hge2; have HNE := Lib.hid hne; have HR1 := Lib.hid hr1; have HR2 := Lib.hid hr2; clear hb hne hge1 hge2 hr1 hr2)
                | (go_at_call 54; refine ((fun (_ : True) => u32_any g1 g2 0 n n t2 (b.take 4) _ HR2.out h4 (Nat.le_refl _) (by omega) HL4.out HB4.out (BytesIn.vals 0 HR1.out (by rw [List.drop_zero, HL4.out])) HNE.out) T1).mono ?_; rintro e w2 ⟨rfl, hb⟩; rw [← HQ.out]; rw [if_neg h44, Nat.zero_add] at hb; have HR3 := Lib.hid (row_near HR2.out hb); have HR5 := Lib.hid (row_far HR1.out hb HNE.out); have HB2 := Lib.hid ((Below.setCell (p := ⟨g2, 0, none⟩) HB.out HG2.out _).trans (hb.mono HB.out.size)); have HS2 := Lib.hid (show g1 < w2.heap.size ∧ g2 < w2.heap.size from ⟨(Array.getElem?_eq_some_iff.1 HR5.out).1, (Array.getElem?_eq_some_iff.1 HR3.out).1⟩); clear hb T1)
                | (go_at_call 54; refine (u32_any g1 g2 4 (n - 4) (n - 4) t2 ((b.drop 4).take 4) _ HR3.out (by omega) (Nat.le_refl _) (by omega) HL8.out HB8.out (BytesIn.vals 4 HR5.out (by rw [HL8.out])) HNE.out).mono ?_; rintro e w3 ⟨rfl, hb⟩; rw [← HM.out]; have HR4 := Lib.hid (row_near HR3.out hb); have HR6 := Lib.hid (row_far HR5.out hb HNE.out); have HB3 := Lib.hid ((Below.setCell (p := ⟨g2, 0, none⟩) HB2.out HG2.out _).trans (hb.mono HB2.out.size)); have HS3 := Lib.hid (show g1 < w3.heap.size ∧ g2 < w3.heap.size from ⟨(Array.getElem?_eq_some_iff.1 HR6.out).1, (Array.getElem?_eq_some_iff.1 HR4.out).1⟩); clear hb)
                | (go_at_call 55; refine (rdErr_any g2 _ 0 t2 _ HR4.out).mono ?_; rintro e w4 ⟨_, rfl, rfl, hb⟩; have HR7 := Lib.hid (row_call hb HR4.out); have HR8 := Lib.hid (row_call hb HR6.out); have HB4 := Lib.hid (below_call hb HB3.out); clear hb)
              exact ⟨rfl, .tuple #[.int .i64 0, .slice none 0 0, .int .i64 202], by kernel_rfl, HB4.out, _, [], rfl, frv_nil _ _, rfl⟩
            · have hn1' : n = 8 + m * 88 := by omega
              rw [frameP_ok (show fok b from ⟨by rw [HN.out]; exact h8', by rw [← hq]; exact hq1', by rw [← hq]; exact hq2', by rw [← hm]; omega, by rw [← hm, HN.out]; omega⟩) hq hm]
              have hnb : ((n : Int) != 8 + (m : Int) * 88) = false := by rw [bne_eq_false_iff_eq]; omega
              have HN1 := Lib.hid hn1'
              clear hn1 hn1'
              clear hq hm
              go_enter Tryd.func24, Tryd.ntmps24
              go_wp2_with first
                | (go_at_call 53; refine HNR.out.mono ?_; rintro e w1 ⟨hb, g1, g2, t1, t2, rfl, hne, hge1, hge2, hr1, hr2⟩; have HB := Lib.hid hb; have HG1 := Lib.hid hge1; have HG2 := Lib.hid hge2; have HNE := Lib.hid hne; have HR1 := Lib.hid hr1; have HR2 := Lib.hid hr2; clear hb hne hge1 hge2 hr1 hr2)
                | (go_at_call 54; refine ((fun (_ : True) => u32_any g1 g2 0 n n t2 (b.take 4) _ HR2.out h4 (Nat.le_refl _) (by omega) HL4.out HB4.out (BytesIn.vals 0 HR1.out (by rw [List.drop_zero, HL4.out])) HNE.out) T1).mono ?_; rintro e w2 ⟨rfl, hb⟩; rw [← HQ.out]; rw [if_neg h44, Nat.zero_add] at hb; have HR3 := Lib.hid (row_near HR2.out hb); have HR5 := Lib.hid (row_far HR1.out hb HNE.out); have HB2 := Lib.hid ((Below.setCell (p := ⟨g2, 0, none⟩) HB.out HG2.out _).trans (hb.mono HB.out.size)); have HS2 := Lib.hid (show g1 < w2.heap.size ∧ g2 < w2.heap.size from ⟨(Array.getElem?_eq_some_iff.1 HR5.out).1, (Array.getElem?_eq_some_iff.1 HR3.out).1⟩); clear hb T1)
                | (go_at_call 54; refine (u32_any g1 g2 4 (n - 4) (n - 4) t2 ((b.drop 4).take 4) _ HR3.out (by omega) (Nat.le_refl _) (by omega) HL8.out HB8.out (BytesIn.vals 4 HR5.out (by rw [HL8.out])) HNE.out).mono ?_; rintro e w3 ⟨rfl, hb⟩; rw [← HM.out]; have HR4 := Lib.hid (row_near HR3.out hb); have HR6 := Lib.hid (row_far HR5.out hb HNE.out); have HB3 := Lib.hid ((Below.setCell (p := ⟨g2, 0, none⟩) HB2.out HG2.out _).trans (hb.mono HB2.out.size)); have HS3 := Lib.hid (show g1 < w3.heap.size ∧ g2 < w3.heap.size from ⟨(Array.getElem?_eq_some_iff.1 HR6.out).1, (Array.getElem?_eq_some_iff.1 HR4.out).1⟩); clear hb)
                | (go_at_call 55; refine (rdErr_any g2 _ 0 t2 _ HR4.out).mono ?_; rintro e w4 ⟨_, rfl, rfl, hb⟩; have HR7 := Lib.hid (row_call hb HR4.out); have HR8 := Lib.hid (row_call hb HR6.out); have HB4 := Lib.hid (below_call hb HB3.out); clear hb)
              have HS4 := Lib.hid (show g1 < w4.heap.size ∧ g2 < w4.heap.size from ⟨(Array.getElem?_eq_some_iff.1 HR8.out).1, (Array.getElem?_eq_some_iff.1 HR7.out).1⟩)
              have hn1' := HN1.out
              go_loopw [40, 8] (fun i v wr => ∃ k, k ≤ m ∧ i = .int .u32 (k : Nat) ∧ Below w.heap.size w wr ∧ (∃ vs, FrV wr w4.heap.size v vs ∧ vs.map (·.2.2) = rowsOf b k) ∧ wr.heap[g1]? = some (.cells (vals b) t1 (0, 0)) ∧ (∃ o, wr.heap[g2]? = some (.cells #[.slice (some ⟨g1, o, none⟩) (88 * (m - k)) (88 * (m - k)), .int .i64 0] t2 (0, 0)) ∧ (k < m → o = 8 + 88 * k)) ∧ w4.heap.size ≤ wr.heap.size) (fun i _ _ => m - (intOf i).toNat)
              case atStart =>
                refine ⟨0, by omega, rfl, HB4.out, ⟨[], frv_nil _ _, rfl⟩, HR8.out, ?_, Nat.le_refl _⟩
                have h1 := HR7.out
                rw [show n - 4 - 4 = 88 * (m - 0) by omega] at h1
                by_cases h9 : n - 4 = 4
                · rw [if_pos h9] at h1
                  exact ⟨_, h1, fun h => by omega⟩
                · rw [if_neg h9] at h1
                  exact ⟨_, h1, fun _ => by omega⟩
              case round =>
                clear hn1' hnb
                obtain ⟨k, hk, rfl, hb, ⟨vs, hf, hvs⟩, hr1, ⟨o, hr2, ho⟩, hsz⟩ := hrel
                have HBW := Lib.hid hb
                have HF := Lib.hid hf
                have HVS := Lib.hid hvs
                have HX1 := Lib.hid hr1
                have HX2 := Lib.hid hr2
                have HSZ := Lib.hid hsz
                have hkl : vs.length = k := by
                  have h1 := congrArg List.length hvs
                  simpa [rowsOf] using h1
                have HKL := Lib.hid hkl
                clear hb hf hvs hr1 hr2 hsz hkl
                by_cases hlt : k < m
                · obtain rfl := ho hlt
                  have hrl : (rowAt b k).length = 88 := by have := HN1.out; rw [rowAt, List.length_take, List.length_drop, HN.out]; omega
                  have HRL := Lib.hid hrl
                  clear hrl ho
                  go_wp2_with first
                    | (go_at_call 56; refine (bytesK_any g1 g2 (8 + 88 * k) (88 * (m - k)) (88 * (m - k)) 88 t2 (rowAt b k) _ HX2.out (by decide) (by omega) (Nat.le_refl _) (by omega) HRL.out (BytesIn.vals (8 + 88 * k) HX1.out (by rw [HRL.out]; rfl)) HNE.out).mono ?_; rintro e w5 ⟨v5, rfl, hb, hv⟩; have HBB5 := Lib.hid hb; have HV5 := Lib.hid hv; clear hb hv; obtain ⟨p5, c5, rfl, hel, _⟩ := HV5.out.el; have HEL := Lib.hid hel; clear hel)
                    | (at_builtin; (refine held_append _ _ rfl ?_))
                  have hg5 : wr.grownBy w5 (some g2) := grown_set HBB5.out
                  have hf5 := HF.out.far hg5 (fun x hx => by cases hx; exact HS4.out.2)
                  have hvlt := HF.out.1.lt
                  have hsz5 : w4.heap.size ≤ w5.heap.size := Nat.le_trans HSZ.out hg5.size
                  have hbt5 := HV5.out.lt
                  have hX1 := row_far HX1.out HBB5.out HNE.out
                  have hX2 := row_near HX2.out HBB5.out
                  have hold := fun (r : Row1) (hr : r ∈ vs) (a : Addr) (ha : r.1 = some a) => (HF.out.1.2 r hr).1.2.2 a ha
                  refine wpList_appF (p5, c5, rowAt b k) _ _ rfl rfl rfl rfl hsz5 hf5 (HV5.out.low HSZ.out) HEL.out (fun a ha e => ?_) (fun s hs => ?_) (by rw [HKL.out]; omega) fun v' w' h1 h2 => ?_
                  · have h3 := (hbt5 a.block (by subst ha; rfl)).1
                    have h4 := (hvlt _ e.symm).2
                    omega
                  · cases e : s.1 with
                    | none => exact .inl rfl
                    | some a =>
                      refine .inr fun e2 => ?_
                      have h3 := hold s hs a e
                      have h4 := (hbt5 a.block ((pb_own p5 _ _).trans e2.symm)).1
                      omega
                  have H1 := Lib.hid h1
                  have HB5 := Lib.hid (show Below w.heap.size w w' from ((Below.setCell (p := ⟨g2, 0, none⟩) HBW.out HG2.out _).trans (HBB5.out.mono HBW.out.size)).grown h2 (Nat.le_trans HBW.out.size hg5.size) fun x hx => Nat.le_trans HB4.out.size (hvlt x hx).1)
                  have HY1 := Lib.hid (show w'.heap[g1]? = some (.cells (vals b) t1 (0, 0)) from (h2.block g1 (Nat.lt_of_lt_of_le HS4.out.1 hsz5) (fun e => by have := (hvlt _ e.symm).1; have := HS4.out.1; omega)).trans hX1)
                  have HY2 := Lib.hid ((h2.block g2 (Nat.lt_of_lt_of_le HS4.out.2 hsz5) (fun e => by have := (hvlt _ e.symm).1; have := HS4.out.2; omega)).trans hX2)
                  have HY3 := Lib.hid (Nat.le_trans hsz5 h2.size)
                  clear h1 h2 hX1 hX2 hbt5 hvlt hf5 hg5 hsz5 hold
                  go_wp2
                  go_roundw
                  case rel =>
                    refine ⟨k + 1, by omega, by go_num, HB5.out, ⟨_, H1.out, by rw [List.map_append, HVS.out, rowsOf_succ]; rfl⟩, HY1.out, ?_, HY3.out⟩
                    have h3 := HY2.out
                    rw [show 88 * (m - k) - 88 = 88 * (m - (k + 1)) by omega] at h3
                    by_cases h9 : 88 * (m - k) = 88
                    · rw [if_pos h9] at h3
                      exact ⟨_, h3, fun h => by omega⟩
                    · rw [if_neg h9] at h3
                      exact ⟨_, h3, fun _ => by omega⟩
                  case measure => simp [intOf]; omega
                · obtain rfl : k = m := by omega
                  have hqi : q % 18446744073709551616 = q := by omega
                  go_wp2
                  exact ⟨rfl, .tuple #[.int .i64 q, u8, .int .i64 0], by kernel_rfl, HBW.out, _, vs, rfl, HF.out.low HB4.out.size, HVS.out⟩
end Go.Proofs.YtmochmpamgfboaaDoor
