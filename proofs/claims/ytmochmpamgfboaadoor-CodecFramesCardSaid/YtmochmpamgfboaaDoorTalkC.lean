/- codec.ParseReply, TalkReply. Condition: lengths below 2^40; bytes. -/
import Derived.Test.YtmochmpamgfboaaDoorTalkB
namespace Go.Proofs.YtmochmpamgfboaaDoor
open Go.RowKit
theorem or8_zero {a x : Int} (ha : 0 ≤ a) (ha' : a < 256) (hx : 0 ≤ x) (hx' : x < 256) : bits .or .u8 a x = 0 ↔ a = 0 ∧ x = 0 := by
  obtain ⟨A, rfl⟩ := Int.eq_ofNat_of_zero_le ha
  obtain ⟨X, rfl⟩ := Int.eq_ofNat_of_zero_le hx
  have hA : A < 256 := by omega
  have hX : X < 256 := by omega
  have h3 : A ||| X < 2 ^ 8 := Nat.or_lt_two_pow hA hX
  have h1 : (BitVec.ofInt 8 (A : Int)).toNat = A := by
    rw [BitVec.ofInt_natCast, BitVec.toNat_ofNat]; exact Nat.mod_eq_of_lt (by omega)
  have h2 : (BitVec.ofInt 8 (X : Int)).toNat = X := by
    rw [BitVec.ofInt_natCast, BitVec.toNat_ofNat]; exact Nat.mod_eq_of_lt (by omega)
  have e : bits .or .u8 (A : Int) (X : Int) = ((A ||| X : Nat) : Int) := by
    show IntKind.u8.wrap ((BitVec.ofInt 8 (A : Int) ||| BitVec.ofInt 8 (X : Int)).toNat : Int) = _
    rw [BitVec.toNat_or, h1, h2, IntKind.wrap_u8]
    omega
  rw [e]
  have l1 : A ≤ A ||| X := Nat.left_le_or
  have l2 : X ≤ A ||| X := Nat.right_le_or
  constructor
  · intro h
    omega
  · rintro ⟨h4, h5⟩
    have h4' : A = 0 := by omega
    have h5' : X = 0 := by omega
    subst h4'; subst h5'
    rfl
theorem or8_rng (a x : Int) : 0 ≤ bits .or .u8 a x ∧ bits .or .u8 a x < 256 := ⟨bits_lo_u8 .or a x, by have := bits_hi_u8 .or a x; omega⟩
theorem eql8 {p q : Operand} {a b : Int} {c : Bool} (h : decide (a = b) = c) (w : World) : (do eqGuard .eql 5 p q (.int .u8 a) (.int .u8 b); binOp .eql 5 (.int .u8 a) (.int .u8 b) : Sem Value).run Tryd.prog w = .ok (.bool c) w := by
  subst h
  by_cases h : a = b <;> go_simp <;> simp [h]
theorem add_two (ad : Addr) (m k : Nat) (hm : m ≠ 0) : (ad.add m).add k = ⟨ad.block, ad.off + m + k, none⟩ := by
  unfold Addr.add
  rw [if_neg hm]
  by_cases h : k = 0 <;> simp [h]
/-- What a parser of a reply hands back. -/
def AnsB (w : World) (y : Bool) (l : List Int) (k : Int) (e : Ending) (w' : World) : Prop := Below w.heap.size w w' ∧ ∃ v, e = .returned (.tuple #[.bool y, v, .int .i64 k]) ∧ Bts w' w.heap.size v l
/-- Are all of them 0? -/
def zeros (t : List Int) : Prop := ∀ j, j < t.length → nth t j = 0
instance (t : List Int) : Decidable (zeros t) := inferInstanceAs (Decidable (∀ j, j < t.length → nth t j = 0))
/-- A reply of a talk round, read. -/
def replyP (g : Bool) (n1 : Int) (b : List Int) : Bool × List Int × Int := if g = true then (if (b.length : Int) = 1 + n1 then (if nth b 0 = 1 then (true, b.drop 1, 0) else if nth b 0 = 0 ∧ zeros (b.drop 1) then (false, b.drop 1, 0) else (false, [], 203)) else (false, [], 4)) else (false, [], 200)
set_option maxHeartbeats 4000000 in
set_option maxRecDepth 100000 in
theorem parseReply_any (n0 n1 n2 n3 n4 n5 : Int) (p : Option Addr) (n c : Nat) (b : List Int) (w : World) (hn : b.length = n) (hbb : Byt b) (h : BytesIn w p b) (hc : n ≤ c) :
    Calls Tryd.prog 16 #[.agg #[.int .i64 n0, .int .i64 n1, .int .i64 n2, .int .i64 n3, .int .i64 n4, .int .i64 n5], .slice p n c] w (AnsB w (replyP (good n0 n1 n2 n3 n4 n5) n1 b).1 (replyP (good n0 n1 n2 n3 n4 n5) n1 b).2.1 (replyP (good n0 n1 n2 n3 n4 n5) n1 b).2.2) := by
  have H := Lib.hid h
  have HN := Lib.hid hn
  have HBB := Lib.hid hbb
  clear h hn hbb
  by_cases hg : good n0 n1 n2 n3 n4 n5 = true
  · have hmsg := good_msg hg
    by_cases hl : (n : Int) = 1 + n1
    · rw [replyP, if_pos hg, if_pos (by rw [HN.out]; exact hl)]
      have HF := Lib.hid (fitE_ok hg hl)
      obtain ⟨ad, rfl, _, hx0⟩ := H.out 0 (by rw [HN.out]; omega)
      have hb0 := HBB.out.nth 0
      obtain ⟨b0, hbe⟩ : ∃ b0, b0 = nth b 0 := ⟨_, rfl⟩
      rw [← hbe] at hx0 hb0 ⊢
      rw [show ad.add 0 = ad by simp [Addr.add]] at hx0
      have HX0 := Lib.hid (show ∀ w', Below w.heap.size w w' → w'.cell? ad = some (.int .u8 b0) from fun w' hb => by
        have h1 := H.out.keep hb 0 (by rw [HN.out]; omega)
        obtain ⟨_, e, _, h2⟩ := h1
        injection e with e
        subst e
        rw [show ad.add 0 = ad by simp [Addr.add]] at h2
        rw [h2, hbe])
      clear hx0 hbe
      obtain ⟨t, ht⟩ : ∃ t, t = b.drop 1 := ⟨_, rfl⟩
      rw [← ht]
      have HTL := Lib.hid (show t.length = n - 1 by rw [ht, List.length_drop, HN.out])
      have HTB := Lib.hid (show Byt t from fun x hx => HBB.out x (by rw [ht] at hx; exact List.mem_of_mem_drop hx))
      have HDR := Lib.hid (show ∀ w', Below w.heap.size w w' → BytesIn w' (some (ad.add 1)) t from fun w' hb => by
        have h1 := (H.out.keep hb).sub 1 (b.drop 1).length
        rw [List.take_length, ← ht] at h1
        exact h1)
      clear ht
      obtain ⟨R, hR⟩ : ∃ R, R = (if b0 = 1 then (true, t, (0 : Int)) else if b0 = 0 ∧ zeros t then (false, t, 0) else (false, [], 203)) := ⟨_, rfl⟩
      rw [← hR]
      have HRR := Lib.hid hR
      have hcn : n ≤ c := hc
      clear hg hR
      go_enter Tryd.func16, Tryd.ntmps16
      go_wp2_with (go_at_call 46; refine (fits_any _ _ _ _ _ _ _ _ _ _ _).mono ?_; rintro e w1 ⟨_, rfl, rfl, hb⟩; rw [HF.out]; have HB := Lib.hid (show Below w.heap.size w w1 from below_call hb (by go_grown)); clear hb)
      have hc1 : ¬ c = 1 := by omega
      go_loopw [8, 23] (fun al i wr => ∃ k a, k ≤ n - 1 ∧ i = .int .i64 (k : Nat) ∧ al = .int .u8 a ∧ 0 ≤ a ∧ a < 256 ∧ (a = 0 ↔ ∀ j, j < k → nth t j = 0) ∧ Below w.heap.size w wr) (fun _ i _ => n - 1 - (intOf i).toNat)
      case atStart => exact ⟨0, 0, by omega, rfl, rfl, by omega, by omega, by simp, HB.out⟩
      case round =>
        clear HB
        obtain ⟨k, a, hk, rfl, rfl, ha0, ha1, hz, hb⟩ := hrel
        have HB := Lib.hid hb
        have HZ := Lib.hid hz
        clear hb hz
        by_cases hlt : k < n - 1
        · obtain ⟨_, e, _, x1⟩ := HDR.out _ HB.out k (by rw [HTL.out]; exact hlt)
          injection e with e
          subst e
          rw [add_two ad 1 k (by decide)] at x1
          have hx := HTB.out.nth k
          have HE := Lib.hid (show bits .or .u8 a (nth t k) = 0 ↔ ∀ j, j < k + 1 → nth t j = 0 from by
            rw [or8_zero ha0 ha1 hx.1 hx.2, HZ.out]
            constructor
            · intro h j hj
              rcases Nat.lt_or_ge j k with h1 | h1
              · exact h.1 j h1
              · obtain rfl : j = k := by omega
                exact h.2
            · intro h
              exact ⟨fun j hj => h j (by omega), h k (by omega)⟩)
          have HRG := Lib.hid (or8_rng a (nth t k))
          generalize nth t k = x at x1 HE HRG hx
          go_wp2
          go_roundw
          case rel => exact ⟨k + 1, _, by omega, by go_num, rfl, HRG.out.1, HRG.out.2, HE.out, HB.out⟩
          case measure => simp [intOf]; omega
        · obtain rfl : k = n - 1 := by omega
          have HZZ := Lib.hid (show a = 0 ↔ zeros t by rw [HZ.out, zeros, HTL.out])
          have hx0 := HX0.out _ HB.out
          have HLD := Lib.hid (show t.length = n - 1 from HTL.out)
          clear HZ
          by_cases h1 : b0 = 1
          · subst h1
            have hRe := HRR.out
            rw [if_pos rfl] at hRe
            subst hRe
            have HX1 := Lib.hid (show ∀ w', Below wr.heap.size wr w' → w'.cell? (ad.add (0 * 1)) = some (.int .u8 1) from fun w' hb => by rw [show ad.add (0 * 1) = ad by simp [Addr.add]]; exact HX0.out _ (below_call hb HB.out))
            go_wp2
            clear hx0
            have hS := Own.start wr
            obtain ⟨M, hM⟩ : ∃ M, M = wr.heap.size := ⟨_, rfl⟩
            refine hide_frame fun t0 HT => ?_
            have HS : t0.size = 52 := by rw [HT]; rfl
            have h1 : t0[1]? = some (.slice (some ad) n c) := by rw [HT]; rfl
            clear HT
            refine wp_region_one 7 6 (by omega) (fun i => [45, 46, 47, 48, 49, 50, 51].getD i 0) (fun i => [(· = .slice (some ad) n c), (· = .pointer (some (ad.add (0 * 1)))), (· = .int .u8 1), (· = .bool true), (· = .slice (some ad) n c), (· = .slice (some (ad.add 1)) (n - 1) (c - 1)), (fun _ => True)].getD i (fun _ => True)) (fun x w' => Bts w' wr.heap.size x t) (fun w' => Own wr [] w' ∧ M ≤ w'.heap.size)
              (by kernel_rfl) (by kernel_rfl) (slots_apart (by kernel_rfl)) (slots_lie (by rw [HS]; kernel_rfl)) ⟨hS.drew, Nat.le_of_eq hM⟩ (fun w1 w2 h b => ⟨h.1.keep b, Nat.le_trans h.2 b.size⟩) (fun x w1' w2' h hb => h.under hb) ?_ ?_ ?_
            · clear hS
              intro i o hi hnu ho
              have hc : i = 0 ∨ i = 1 ∨ i = 2 ∨ i = 3 ∨ i = 4 ∨ i = 5 ∨ i = 6 := by omega
              rcases hc with rfl | rfl | rfl | rfl | rfl | rfl | rfl
              · obtain rfl := Option.some.inj ho
                refine ⟨rfl, fun a w' hS hold hin K hK => ?_⟩
                refine if_always rfl ?_
                exact op_move (V := (· = .slice (some ad) n c)) _ _ rfl rfl (eval_tmp ((hold 1 (slots_not (by kernel_rfl))).trans h1)) rfl hK
              · obtain rfl := Option.some.inj ho
                refine ⟨rfl, fun a w' hS hold hin K hK => ?_⟩
                obtain ⟨y0, x0, rfl⟩ := hin 0 rfl (by omega) (by omega)
                refine if_always rfl ?_
                exact op_index 1 5 (by kernel_rfl) (by kernel_rfl) _ _ rfl rfl _ _ _ (eval_tmp x0) _ 0 rfl (by omega) hK
              · obtain rfl := Option.some.inj ho
                refine ⟨rfl, fun a w' hS hold hin K hK => ?_⟩
                obtain ⟨y1, x1, rfl⟩ := hin 1 rfl (by omega) (by omega)
                refine if_always rfl ?_
                exact op_cell tB1 _ (ad.add (0 * 1)) rfl rfl (eval_tmp x1) (.int .u8 1) (HX1.out _ hS.1.1) hK
              · obtain rfl := Option.some.inj ho
                refine ⟨rfl, fun a w' hS hold hin K hK => ?_⟩
                obtain ⟨y2, x2, rfl⟩ := hin 2 rfl (by omega) (by omega)
                refine if_always rfl ?_
                exact op_bin (V := (· = .bool true)) _ _ _ _ _ _ _ (.bool true) rfl rfl (eval_tmp x2) rfl (fun w => eql8 (by decide) w) rfl hK
              · obtain rfl := Option.some.inj ho
                refine ⟨rfl, fun a w' hS hold hin K hK => ?_⟩
                refine if_always rfl ?_
                exact op_move (V := (· = .slice (some ad) n c)) _ _ rfl rfl (eval_tmp ((hold 1 (slots_not (by kernel_rfl))).trans h1)) rfl hK
              · obtain rfl := Option.some.inj ho
                refine ⟨rfl, fun a w' hS hold hin K hK => ?_⟩
                obtain ⟨y4, x4, rfl⟩ := hin 4 rfl (by omega) (by omega)
                refine if_always rfl ?_
                exact op_from 5 (by kernel_rfl) (by kernel_rfl) _ _ rfl rfl ad n c 1 (eval_tmp x4) rfl (by omega) (by omega) hK
              · exact absurd rfl hnu
            · clear hS
              intro o ho
              obtain rfl := Option.some.inj ho
              refine ⟨rfl, fun a w' hS hold hin K hK => ?_⟩
              obtain ⟨y5, x5, rfl⟩ := hin 5 rfl (by omega) (by omega)
              refine if_always rfl ?_
              exact op_newv _ _ _ _ t rfl rfl (eval_tmp x5) (by intro args w; kernel_rfl) (twin_any _ t (n - 1) _ _ HLD.out (HDR.out _ (below_call hS.1.1 HB.out)) (fun h => by cases h) (by omega)) (fun x w' h1 h2 => hK x w' (h1.low hS.1.1.size) h2)
            clear hS
            intro t1 V1 hs hold hout hu1 hS
            obtain ⟨x51, q51, u51⟩ := hu1
            replace q51 : t1[51]? = some x51 := q51
            replace HS := hs.trans HS
            replace hS := hS.1
            obtain ⟨_, q48, rfl⟩ : ∃ x, t1[48]? = some x ∧ x = (.bool true : Value) := hout 3 (by omega) (by omega)
            replace h1 := (hold 1 (slots_not (by kernel_rfl))).trans h1
            clear hold hout hs
            simp only [List.drop_succ_cons, List.drop_zero]
            obtain ⟨f, e0, hf⟩ := wash HS
            have f1 := hf 1 _ h1
            have f51 := hf 51 _ q51
            have f48 := hf 48 _ q48
            clear hf
            rw [e0.trans (show _ = #[f 0, f 1, f 2, f 3, f 4, f 5, f 6, f 7, f 8, f 9, f 10, f 11, f 12, f 13, f 14, f 15, f 16, f 17, f 18, f 19, f 20, f 21, f 22, f 23, f 24, f 25, f 26, f 27, f 28, f 29, f 30, f 31, f 32, f 33, f 34, f 35, f 36, f 37, f 38, f 39, f 40, f 41, f 42, f 43, f 44, f 45, f 46, f 47, f 48, f 49, f 50, f 51] from by kernel_rfl), f1, f51, f48]
            clear f1 f51 f48
            clear e0
            try dsimp only
            clear h1 q48 q51 hM HS t1 t0 M
            have HU := Lib.hid (u51.low HB.out.size)
            have HB2 := Lib.hid (below_call hS.1 HB.out)
            clear hS u51
            go_wp2
            exact ⟨rfl, .tuple #[.bool true, x51, .int .i64 0], by kernel_rfl, HB2.out, x51, rfl, HU.out⟩
          · by_cases h0 : b0 = 0
            · subst h0
              by_cases haz : a = 0
              · subst haz
                have hRe := HRR.out
                rw [if_neg (by decide), if_pos ⟨rfl, HZZ.out.1 rfl⟩] at hRe
                subst hRe
                have HX1 := Lib.hid (show ∀ w', Below wr.heap.size wr w' → w'.cell? (ad.add (0 * 1)) = some (.int .u8 0) from fun w' hb => by rw [show ad.add (0 * 1) = ad by simp [Addr.add]]; exact HX0.out _ (below_call hb HB.out))
                go_wp2
                clear hx0
                have hS := Own.start wr
                obtain ⟨M, hM⟩ : ∃ M, M = wr.heap.size := ⟨_, rfl⟩
                refine hide_frame fun t0 HT => ?_
                have HS : t0.size = 52 := by rw [HT]; rfl
                have h1 : t0[1]? = some (.slice (some ad) n c) := by rw [HT]; rfl
                clear HT
                refine wp_region_one 7 6 (by omega) (fun i => [45, 46, 47, 48, 49, 50, 51].getD i 0) (fun i => [(· = .slice (some ad) n c), (· = .pointer (some (ad.add (0 * 1)))), (· = .int .u8 0), (· = .bool false), (· = .slice (some ad) n c), (· = .slice (some (ad.add 1)) (n - 1) (c - 1)), (fun _ => True)].getD i (fun _ => True)) (fun x w' => Bts w' wr.heap.size x t) (fun w' => Own wr [] w' ∧ M ≤ w'.heap.size)
                  (by kernel_rfl) (by kernel_rfl) (slots_apart (by kernel_rfl)) (slots_lie (by rw [HS]; kernel_rfl)) ⟨hS.drew, Nat.le_of_eq hM⟩ (fun w1 w2 h b => ⟨h.1.keep b, Nat.le_trans h.2 b.size⟩) (fun x w1' w2' h hb => h.under hb) ?_ ?_ ?_
                · clear hS
                  intro i o hi hnu ho
                  have hc : i = 0 ∨ i = 1 ∨ i = 2 ∨ i = 3 ∨ i = 4 ∨ i = 5 ∨ i = 6 := by omega
                  rcases hc with rfl | rfl | rfl | rfl | rfl | rfl | rfl
                  · obtain rfl := Option.some.inj ho
                    refine ⟨rfl, fun a w' hS hold hin K hK => ?_⟩
                    refine if_always rfl ?_
                    exact op_move (V := (· = .slice (some ad) n c)) _ _ rfl rfl (eval_tmp ((hold 1 (slots_not (by kernel_rfl))).trans h1)) rfl hK
                  · obtain rfl := Option.some.inj ho
                    refine ⟨rfl, fun a w' hS hold hin K hK => ?_⟩
                    obtain ⟨y0, x0, rfl⟩ := hin 0 rfl (by omega) (by omega)
                    refine if_always rfl ?_
                    exact op_index 1 5 (by kernel_rfl) (by kernel_rfl) _ _ rfl rfl _ _ _ (eval_tmp x0) _ 0 rfl (by omega) hK
                  · obtain rfl := Option.some.inj ho
                    refine ⟨rfl, fun a w' hS hold hin K hK => ?_⟩
                    obtain ⟨y1, x1, rfl⟩ := hin 1 rfl (by omega) (by omega)
                    refine if_always rfl ?_
                    exact op_cell tB1 _ (ad.add (0 * 1)) rfl rfl (eval_tmp x1) (.int .u8 0) (HX1.out _ hS.1.1) hK
                  · obtain rfl := Option.some.inj ho
                    refine ⟨rfl, fun a w' hS hold hin K hK => ?_⟩
                    obtain ⟨y2, x2, rfl⟩ := hin 2 rfl (by omega) (by omega)
                    refine if_always rfl ?_
                    exact op_bin (V := (· = .bool false)) _ _ _ _ _ _ _ (.bool false) rfl rfl (eval_tmp x2) rfl (fun w => eql8 (by decide) w) rfl hK
                  · obtain rfl := Option.some.inj ho
                    refine ⟨rfl, fun a w' hS hold hin K hK => ?_⟩
                    refine if_always rfl ?_
                    exact op_move (V := (· = .slice (some ad) n c)) _ _ rfl rfl (eval_tmp ((hold 1 (slots_not (by kernel_rfl))).trans h1)) rfl hK
                  · obtain rfl := Option.some.inj ho
                    refine ⟨rfl, fun a w' hS hold hin K hK => ?_⟩
                    obtain ⟨y4, x4, rfl⟩ := hin 4 rfl (by omega) (by omega)
                    refine if_always rfl ?_
                    exact op_from 5 (by kernel_rfl) (by kernel_rfl) _ _ rfl rfl ad n c 1 (eval_tmp x4) rfl (by omega) (by omega) hK
                  · exact absurd rfl hnu
                · clear hS
                  intro o ho
                  obtain rfl := Option.some.inj ho
                  refine ⟨rfl, fun a w' hS hold hin K hK => ?_⟩
                  obtain ⟨y5, x5, rfl⟩ := hin 5 rfl (by omega) (by omega)
                  refine if_always rfl ?_
                  exact op_newv _ _ _ _ t rfl rfl (eval_tmp x5) (by intro args w; kernel_rfl) (twin_any _ t (n - 1) _ _ HLD.out (HDR.out _ (below_call hS.1.1 HB.out)) (fun h => by cases h) (by omega)) (fun x w' h1 h2 => hK x w' (h1.low hS.1.1.size) h2)
                clear hS
                intro t1 V1 hs hold hout hu1 hS
                obtain ⟨x51, q51, u51⟩ := hu1
                replace q51 : t1[51]? = some x51 := q51
                replace HS := hs.trans HS
                replace hS := hS.1
                obtain ⟨_, q48, rfl⟩ : ∃ x, t1[48]? = some x ∧ x = (.bool false : Value) := hout 3 (by omega) (by omega)
                replace h1 := (hold 1 (slots_not (by kernel_rfl))).trans h1
                clear hold hout hs
                simp only [List.drop_succ_cons, List.drop_zero]
                obtain ⟨f, e0, hf⟩ := wash HS
                have f1 := hf 1 _ h1
                have f51 := hf 51 _ q51
                have f48 := hf 48 _ q48
                clear hf
                rw [e0.trans (show _ = #[f 0, f 1, f 2, f 3, f 4, f 5, f 6, f 7, f 8, f 9, f 10, f 11, f 12, f 13, f 14, f 15, f 16, f 17, f 18, f 19, f 20, f 21, f 22, f 23, f 24, f 25, f 26, f 27, f 28, f 29, f 30, f 31, f 32, f 33, f 34, f 35, f 36, f 37, f 38, f 39, f 40, f 41, f 42, f 43, f 44, f 45, f 46, f 47, f 48, f 49, f 50, f 51] from by kernel_rfl), f1, f51, f48]
                clear f1 f51 f48
                clear e0
                try dsimp only
                clear h1 q48 q51 hM HS t1 t0 M
                have HU := Lib.hid (u51.low HB.out.size)
                have HB2 := Lib.hid (below_call hS.1 HB.out)
                clear hS u51
                go_wp2
                exact ⟨rfl, .tuple #[.bool false, x51, .int .i64 0], by kernel_rfl, HB2.out, x51, rfl, HU.out⟩
              · have hRe := HRR.out
                rw [if_neg (by decide), if_neg (fun h => haz (HZZ.out.2 h.2))] at hRe
                subst hRe
                go_wp2
                exact ⟨rfl, .tuple #[.bool false, .slice none 0 0, .int .i64 203], by kernel_rfl, HB.out, _, rfl, bts_nil _ _⟩
            · have hRe := HRR.out
              rw [if_neg h1, if_neg (fun h => h0 h.1)] at hRe
              subst hRe
              have h2 : 1 < b0 := by omega
              go_wp2
              exact ⟨rfl, .tuple #[.bool false, .slice none 0 0, .int .i64 203], by kernel_rfl, HB.out, _, rfl, bts_nil _ _⟩
    · rw [replyP, if_pos hg, if_neg (by rw [HN.out]; exact hl)]
      have HF := Lib.hid (fitE_len hg hl)
      clear hg
      go_enter Tryd.func16, Tryd.ntmps16
      go_wp2_with (go_at_call 46; refine (fits_any _ _ _ _ _ _ _ _ _ _ _).mono ?_; rintro e w1 ⟨_, rfl, rfl, hb⟩; rw [HF.out]; have HB := Lib.hid (show Below w.heap.size w w1 from below_call hb (by go_grown)); clear hb)
      exact ⟨rfl, .tuple #[.bool false, .slice none 0 0, .int .i64 4], by kernel_rfl, HB.out, _, rfl, bts_nil _ _⟩
  · rw [replyP, if_neg hg]
    have HF := Lib.hid hg
    clear hg
    go_enter Tryd.func16, Tryd.ntmps16
    go_wp2_with (go_at_call 46; refine (fits_any _ _ _ _ _ _ _ _ _ _ _).mono ?_; rintro e w1 ⟨_, rfl, rfl, hb⟩; rw [fitE_bad HF.out]; have HB := Lib.hid (show Below w.heap.size w w1 from below_call hb (by go_grown)); clear hb)
    exact ⟨rfl, .tuple #[.bool false, .slice none 0 0, .int .i64 200], by kernel_rfl, HB.out, _, rfl, bts_nil _ _⟩
/-- A reply of a talk round. -/
def replyQ (g : Bool) (n1 : Int) (y : Bool) (m : List Int) : List Int × Int := if g = true then (if (m.length : Int) = n1 then (if y = true then 1 :: m else List.replicate (m.length + 1) 0, 0) else ([], 4)) else ([], 200)
theorem bts_zeros {w w0 : World} (m : Nat) (h : w.heap.size ≤ w0.heap.size) (hm : m ≤ 140737488355328) : Bts (w0.alloc (.cells (vals (List.replicate m 0)) 5)) w.heap.size (.slice (some ⟨w0.heap.size, 0, none⟩) m m) (List.replicate m 0) := by
  have h1 := Bts.row (l := List.replicate m 0) (B := w.heap.size) (c := m) (heap_alloc_new w0 (.cells (vals (List.replicate m 0)) 5)) h (by simp) (by simp only [maxLen]; omega) (by simp [vals_size]) (by simp [vals])
  rwa [List.length_replicate] at h1
set_option maxHeartbeats 4000000 in
set_option maxRecDepth 100000 in
theorem talkReply_any (n0 n1 n2 n3 n4 n5 : Int) (y : Bool) (p : Option Addr) (n c : Nat) (m : List Int) (w : World) (hn : m.length = n) (h : BytesIn w p m) (hp : p = none → c = 0) :
    Calls Tryd.prog 12 #[.agg #[.int .i64 n0, .int .i64 n1, .int .i64 n2, .int .i64 n3, .int .i64 n4, .int .i64 n5], .bool y, .slice p n c] w (Ans w (replyQ (good n0 n1 n2 n3 n4 n5) n1 y m).1 (replyQ (good n0 n1 n2 n3 n4 n5) n1 y m).2) := by
  have H := Lib.hid h
  have HN := Lib.hid hn
  have HP := Lib.hid hp
  clear h hn hp
  by_cases hg : good n0 n1 n2 n3 n4 n5 = true
  · have hmsg := good_msg hg
    by_cases hl : (n : Int) = n1
    · have hm : n ≤ 1099511627776 := by omega
      rw [replyQ, if_pos hg, if_pos (by rw [HN.out]; exact hl)]
      have HF := Lib.hid (fitE_ok hg hl)
      clear hg
      cases y with
      | true =>
        rw [if_pos rfl]
        go_enter Tryd.func12, Tryd.ntmps12
        go_wp2_with (go_at_call 46; refine (fits_any _ _ _ _ _ _ _ _ _ _ _).mono ?_; rintro e w1 ⟨_, rfl, rfl, hb⟩; rw [HF.out]; have HB := Lib.hid (show Below w.heap.size w w1 from below_call hb (by go_grown)); clear hb)
        refine (laid_any _ 2 2 [_, _] [some [1], some m] (1 :: m) _ (by simp [layAll]) rfl rfl (by decide) (lit_at w1 _ _) (fun k v o h1 h2 => ?_)).mono ?_
        · match k, h1, h2 with
          | 0, h1, h2 =>
            obtain rfl := Option.some.inj h1
            obtain rfl := Option.some.inj h2
            exact .byte 1
          | 1, h1, h2 =>
            obtain rfl := Option.some.inj h1
            obtain rfl := Option.some.inj h2
            exact .bts p n c m HN.out ((H.out.under HB.out (Nat.le_refl _)).under ((Below.refl _ _).alloc (Nat.le_refl _) _) (Nat.le_refl _)) HP.out hm
          | k + 2, h1, _ => cases h1
        rintro e w2 ⟨hb, v, rfl, hv⟩
        have HV := Lib.hid (hv.low (Nat.le_trans HB.out.size (Nat.le_trans (Nat.le_succ _) (Nat.le_of_eq (World.size_alloc _ _).symm))))
        have HB2 := Lib.hid (below_call hb (HB.out.alloc HB.out.size _))
        clear hb hv HB
        go_wp2
        exact ⟨rfl, .tuple #[v, .int .i64 0], by kernel_rfl, HB2.out, v, rfl, HV.out⟩
      | false =>
        rw [if_neg (by decide), HN.out]
        subst hl
        have hmk : ∀ u : World, (Instr.makeSlice 26 (.int .i64 (1 + (n : Int))) (.int .i64 (1 + (n : Int)))).run Tryd.prog u = .ok (.slice (some ⟨u.heap.size, 0, none⟩) (n + 1) (n + 1)) (u.alloc (.cells (vals (List.replicate (n + 1) 0)) 5)) := fun u => by
          have e : (1 + (n : Int)) = ((n + 1 : Nat) : Int) := by omega
          rw [e]
          exact run_make_bts u (n + 1) (n + 1) (Nat.le_refl _) (by omega)
        go_enter Tryd.func12, Tryd.ntmps12
        go_wp2_with (go_at_call 46; refine (fits_any _ _ _ _ _ _ _ _ _ _ _).mono ?_; rintro e w1 ⟨_, rfl, rfl, hb⟩; rw [HF.out]; have hc := conf_cells (heap_alloc_new w _) hb; have HB := Lib.hid (show Below w.heap.size w w1 from below_call hb (by go_grown)); clear hb)
        exact ⟨rfl, .tuple #[.slice (some ⟨w1.heap.size, 0, none⟩) (n + 1) (n + 1), .int .i64 0], by kernel_rfl, HB.out.alloc HB.out.size _, _, rfl, bts_zeros (n + 1) HB.out.size (by omega)⟩
    · rw [replyQ, if_pos hg, if_neg (by rw [HN.out]; exact hl)]
      have HF := Lib.hid (fitE_len hg hl)
      clear hg
      go_enter Tryd.func12, Tryd.ntmps12
      go_wp2_with (go_at_call 46; refine (fits_any _ _ _ _ _ _ _ _ _ _ _).mono ?_; rintro e w1 ⟨_, rfl, rfl, hb⟩; rw [HF.out]; have HB := Lib.hid (show Below w.heap.size w w1 from below_call hb (by go_grown)); clear hb)
      exact ⟨rfl, .tuple #[.slice none 0 0, .int .i64 4], by kernel_rfl, HB.out, _, rfl, bts_nil _ _⟩
  · rw [replyQ, if_neg hg]
    have HF := Lib.hid hg
    clear hg
    go_enter Tryd.func12, Tryd.ntmps12
    go_wp2_with (go_at_call 46; refine (fits_any _ _ _ _ _ _ _ _ _ _ _).mono ?_; rintro e w1 ⟨_, rfl, rfl, hb⟩; rw [fitE_bad HF.out]; have HB := Lib.hid (show Below w.heap.size w w1 from below_call hb (by go_grown)); clear hb)
    exact ⟨rfl, .tuple #[.slice none 0 0, .int .i64 200], by kernel_rfl, HB.out, _, rfl, bts_nil _ _⟩
end Go.Proofs.YtmochmpamgfboaaDoor
