/- codec.twin, ParseTalk, ParseReply. Condition: lengths below 2^40. -/
import Derived.Test.YtmochmpamgfboaaDoorTalkA
import Derived.Test.YtmochmpamgfboaaDoorOpsU
namespace Go.Proofs.YtmochmpamgfboaaDoor
open Go.RowKit
theorem tDrop : RowT Tryd.prog 25 16 := ⟨_, Tryd.underlying25, rfl, by kernel_rfl⟩
theorem tB1 : CellT Tryd.prog 5 := ⟨_, Tryd.underlying5, rfl⟩
theorem vals_one16 (d : List Int) : (vals d).all (·.oneCell') = true := vals_one d
set_option maxRecDepth 100000 in
theorem twin_any (p : Option Addr) (l : List Int) (n c : Nat) (w : World) (hn : l.length = n) (h : BytesIn w p l) (hp : p = none → c = 0) (hm : n ≤ 70368744177664) : Calls Tryd.prog 49 #[.slice p n c] w (NewV w l) := by
  have H := Lib.hid h
  have HP := Lib.hid hp
  have HN := Lib.hid hn
  clear h hp hn
  go_enter Tryd.func49, Tryd.ntmps49
  go_wp2_with (at_builtin; (refine held_append _ _ rfl ?_))
  refine wpList_appB l _ _ rfl rfl rfl rfl (Below.refl w.heap.size w) (bts_nil _ _) HN.out H.out HP.out (by simp; omega) fun v' w' h1 h2 _ _ => ?_
  have H1 := Lib.hid h1
  have H2 := Lib.hid h2
  clear h1 h2
  go_wp2
  exact ⟨rfl, v', by kernel_rfl, H2.out, v', rfl, H1.out⟩
theorem Bts.setRow {w : World} {B g : Nat} {v : Value} {l : List Int} (h : Bts w B v l) (hne : ∀ x, v.ownBlock = some x → x ≠ g) (cs : Array Value) : Bts (w.setRow g cs) B v l :=
  h.kept (row := some g) ⟨rfl, rfl, rfl, by simp [World.setRow], fun k _ hk => setRow_other w g k cs (fun e => hk (by rw [e]))⟩ (by
    cases e : v.ownBlock with
    | none => exact .inl rfl
    | some x => exact .inr fun e2 => hne x e (by injection e2))
/-- What a parser of a talk request hands back. -/
def AnsD (w : World) (d l : List Int) (k : Int) (e : Ending) (w' : World) : Prop := Below w.heap.size w w' ∧ ∃ v, e = .returned (.tuple #[.agg (vals d), v, .int .i64 k]) ∧ Bts w' w.heap.size v l
def z16 : List Int := [0, 0, 0, 0, 0, 0, 0, 0, 0, 0, 0, 0, 0, 0, 0, 0]
/-- A request of a talk round, read. -/
def talkP (g : Bool) (n1 : Int) (b : List Int) : List Int × List Int × Int := if g = true then (if (b.length : Int) = 16 + n1 then (b.take 16, b.drop 16, 0) else (z16, [], 4)) else (z16, [], 200)
theorem talkP_bad {g : Bool} (h : ¬ g = true) (n1 : Int) (b : List Int) : talkP g n1 b = (z16, [], 200) := by rw [talkP, if_neg h]
theorem talkP_len {g : Bool} (h : g = true) {n1 : Int} {b : List Int} (hl : ¬ (b.length : Int) = 16 + n1) : talkP g n1 b = (z16, [], 4) := by rw [talkP, if_pos h, if_neg hl]
theorem talkP_ok {g : Bool} (h : g = true) {n1 : Int} {b : List Int} (hl : (b.length : Int) = 16 + n1) : talkP g n1 b = (b.take 16, b.drop 16, 0) := by rw [talkP, if_pos h, if_pos hl]
set_option maxHeartbeats 4000000 in
set_option maxRecDepth 100000 in
theorem parseTalk_any (n0 n1 n2 n3 n4 n5 : Int) (p : Option Addr) (n c : Nat) (b : List Int) (w : World) (hn : b.length = n) (h : BytesIn w p b) (hc : n ≤ c) :
    Calls Tryd.prog 14 #[.agg #[.int .i64 n0, .int .i64 n1, .int .i64 n2, .int .i64 n3, .int .i64 n4, .int .i64 n5], .slice p n c] w (AnsD w (talkP (good n0 n1 n2 n3 n4 n5) n1 b).1 (talkP (good n0 n1 n2 n3 n4 n5) n1 b).2.1 (talkP (good n0 n1 n2 n3 n4 n5) n1 b).2.2) := by
  have H := Lib.hid h
  have HN := Lib.hid hn
  have HCC := Lib.hid hc
  clear h hn hc
  by_cases hg : good n0 n1 n2 n3 n4 n5 = true
  · have hmsg := good_msg hg
    by_cases hl : (n : Int) = 16 + n1
    · rw [talkP_ok hg (by rw [HN.out]; exact hl)]
      have HF := Lib.hid (fitE_ok hg hl)
      have HMS := Lib.hid hmsg
      have hcn := HCC.out
      obtain ⟨ad, rfl, _⟩ := H.out 0 (by rw [HN.out]; omega)
      clear hg
      go_enter Tryd.func14, Tryd.ntmps14
      go_wp2_with (go_at_call 46; refine (fits_any _ _ _ _ _ _ _ _ _ _ _).mono ?_; rintro e w1 ⟨_, rfl, rfl, hb⟩; rw [HF.out]; have HRW := Lib.hid (row_call hb (new2_1 ..)); have HB := Lib.hid (show Below w.heap.size w w1 from below_call hb (by go_grown)); clear hb)
      have HTK := Lib.hid (show ∀ w', Below w1.heap.size w1 w' → BytesIn w' (some ad) (b.take 16) from fun w' hb => by
        have h1 := ((H.out.under HB.out (Nat.le_refl _)).keep hb).sub 0 16
        rwa [List.drop_zero, show ad.add 0 = ad by simp [Addr.add]] at h1)
      have HDR := Lib.hid (show ∀ w', Below w1.heap.size w1 w' → BytesIn w' (some (ad.add 16)) (b.drop 16) from fun w' hb => by
        have h1 := ((H.out.under HB.out (Nat.le_refl _)).keep hb).sub 16 (b.drop 16).length
        rwa [List.take_length] at h1)
      have HL16 := Lib.hid (show (vals (b.take 16)).size = 16 by rw [vals_size, List.length_take, HN.out]; omega)
      have HLD := Lib.hid (show (b.drop 16).length = n - 16 by rw [List.length_drop, HN.out])
      have hS := Own.start w1
      obtain ⟨M, hM⟩ : ∃ M, M = w1.heap.size := ⟨_, rfl⟩
      refine hide_frame fun t0 HT => ?_
      have HS : t0.size = 25 := by rw [HT]; rfl
      have h1 : t0[1]? = some (.slice (some ad) n c) := by rw [HT]; rfl
      have h4 : t0[4]? = some (.pointer (some ⟨w.heap.size + 1, 0, none⟩)) := by rw [HT]; rfl
      clear HT
      refine wp_region_one 7 6 (by omega) (fun i => [18, 19, 20, 21, 22, 23, 24].getD i 0) (fun i => [(· = .slice (some ad) n c), (· = .slice (some ad) 16 c), (· = .pointer (some ad)), (· = .agg (vals (b.take 16))), (· = .slice (some ad) n c), (· = .slice (some (ad.add 16)) (n - 16) (c - 16)), (fun _ => True)].getD i (fun _ => True)) (fun x w' => Bts w' w1.heap.size x (b.drop 16)) (fun w' => Own w1 [] w' ∧ M ≤ w'.heap.size)
        (by kernel_rfl) (by kernel_rfl) (slots_apart (by kernel_rfl)) (slots_lie (by rw [HS]; kernel_rfl)) ⟨hS.drew, Nat.le_of_eq hM⟩ (fun w1 w2 h b => ⟨h.1.keep b, Nat.le_trans h.2 b.size⟩) (fun x w1' w2' h hb => h.under hb) ?_ ?_ ?_
      · clear hS
        intro i o hi hnu ho
        have hc : i = 0 ∨ i = 1 ∨ i = 2 ∨ i = 3 ∨ i = 4 ∨ i = 5 ∨ i = 6 := by omega
        rcases hc with rfl | rfl | rfl | rfl | rfl | rfl | rfl
        · obtain rfl := Option.some.inj ho
          refine ⟨rfl, fun a w' hS hold hin K hK => ?_⟩
          refine if_always rfl ?_
          exact op_move (V := (· = .slice (some ad) n c)) _ _ rfl rfl (eval_tmp ((hold 1 (slots_not (by kernel_rfl))).trans h1)) rfl hK
        · obtain rfl := Option.some.inj ho
          refine ⟨rfl, fun a w' hS hold hin K hK => ?_⟩
          obtain ⟨y0, x0, rfl⟩ := hin 0 rfl (by omega) (by omega)
          refine if_always rfl ?_
          exact op_upto 5 (by kernel_rfl) (by kernel_rfl) _ _ rfl rfl ad n c 16 (eval_tmp x0) rfl (by omega) hK
        · obtain rfl := Option.some.inj ho
          refine ⟨rfl, fun a w' hS hold hin K hK => ?_⟩
          obtain ⟨y1, x1, rfl⟩ := hin 1 rfl (by omega) (by omega)
          refine if_always rfl ?_
          exact op_toarr 5 16 Tryd.underlying25 _ rfl rfl _ _ _ (eval_tmp x1) (Nat.le_refl _) hK
        · obtain rfl := Option.some.inj ho
          refine ⟨rfl, fun a w' hS hold hin K hK => ?_⟩
          obtain ⟨y2, x2, rfl⟩ := hin 2 rfl (by omega) (by omega)
          refine if_always rfl ?_
          exact op_ld_at 16 tDrop _ rfl rfl _ (eval_tmp x2) (vals (b.take 16)) HL16.out (cellsAt_bytes (HTK.out _ hS.1.1)) hK
        · obtain rfl := Option.some.inj ho
          refine ⟨rfl, fun a w' hS hold hin K hK => ?_⟩
          refine if_always rfl ?_
          exact op_move (V := (· = .slice (some ad) n c)) _ _ rfl rfl (eval_tmp ((hold 1 (slots_not (by kernel_rfl))).trans h1)) rfl hK
        · obtain rfl := Option.some.inj ho
          refine ⟨rfl, fun a w' hS hold hin K hK => ?_⟩
          obtain ⟨y4, x4, rfl⟩ := hin 4 rfl (by omega) (by omega)
          refine if_always rfl ?_
          exact op_from 5 (by kernel_rfl) (by kernel_rfl) _ _ rfl rfl ad n c 16 (eval_tmp x4) rfl (by omega) (by omega) hK
        · exact absurd rfl hnu
      · clear hS
        intro o ho
        obtain rfl := Option.some.inj ho
        refine ⟨rfl, fun a w' hS hold hin K hK => ?_⟩
        obtain ⟨y5, x5, rfl⟩ := hin 5 rfl (by omega) (by omega)
        refine if_always rfl ?_
        exact op_newv _ _ _ _ (b.drop 16) rfl rfl (eval_tmp x5) (by intro args w; kernel_rfl) (twin_any _ (b.drop 16) (n - 16) _ _ HLD.out (HDR.out _ hS.1.1) (fun h => by cases h) (by omega)) (fun x w' h1 h2 => hK x w' (h1.low hS.1.1.size) h2)
      clear hS
      intro t1 V1 hs hold hout hu1 hS
      obtain ⟨x24, q24, u24⟩ := hu1
      replace q24 : t1[24]? = some x24 := q24
      replace HS := hs.trans HS
      replace hS := hS.1
      obtain ⟨_, q21, rfl⟩ : ∃ x, t1[21]? = some x ∧ x = (.agg (vals (b.take 16)) : Value) := hout 3 (by omega) (by omega)
      replace h1 := (hold 1 (slots_not (by kernel_rfl))).trans h1
      replace h4 := (hold 4 (slots_not (by kernel_rfl))).trans h4
      clear hold hout hs
      simp only [List.drop_succ_cons, List.drop_zero]
      obtain ⟨f, e0, hf⟩ := wash HS
      have f1 := hf 1 _ h1
      have f4 := hf 4 _ h4
      have f24 := hf 24 _ q24
      have f21 := hf 21 _ q21
      clear hf
      rw [e0.trans (show _ = #[f 0, f 1, f 2, f 3, f 4, f 5, f 6, f 7, f 8, f 9, f 10, f 11, f 12, f 13, f 14, f 15, f 16, f 17, f 18, f 19, f 20, f 21, f 22, f 23, f 24] from by kernel_rfl), f1, f4, f24, f21]
      clear f1 f4 f24 f21
      clear e0
      try dsimp only
      clear h1 h4 q21 q24 hM HS t1 t0 M
      refine st_row rfl _ (.tmp 4) (.tmp 21) rfl (w.heap.size + 1) (vals (b.take 16)) rfl rfl _ _ (row_call hS.1 HRW.out) 16 tDrop HL16.out rfl (vals_one _) ?_
      have HB2 := Lib.hid (below_setRow (below_call hS.1 HB.out) (show w.heap.size ≤ w.heap.size + 1 by omega) (vals (b.take 16)))
      have hlt := HRW.out
      have HU := Lib.hid (Bts.setRow (g := w.heap.size + 1) (u24.low HB.out.size) (fun x e h => by
        have h1 := (u24.lt x e).1
        have h2 := (Array.getElem?_eq_some_iff.1 hlt).1
        omega) (vals (b.take 16)))
      have HSR := Lib.hid (setRow_heap _ _ _ (vals (b.take 16)) _ _ (row_call hS.1 HRW.out))
      clear hS u24 hlt
      go_wp2
      refine ret_row_tmp2 rfl (w.heap.size + 1) (vals (b.take 16)) _ rfl HSR.out 16 tDrop HL16.out rfl ?_
      exact ⟨HB2.out, _, rfl, HU.out⟩
    · rw [talkP_len hg (by rw [HN.out]; exact hl)]
      have HF := Lib.hid (fitE_len hg hl)
      clear hg
      go_enter Tryd.func14, Tryd.ntmps14
      go_wp2_with first
        | (go_at_call 46; refine (fits_any _ _ _ _ _ _ _ _ _ _ _).mono ?_; rintro e w1 ⟨_, rfl, rfl, hb⟩; rw [HF.out]; have HRW := Lib.hid (row_call hb (new2_1 ..)); have HB := Lib.hid (show Below w.heap.size w w1 from below_call hb (by go_grown)); clear hb)
        | ((with_reducible refine guard_list ?_); refine held_st _ _ _ rfl ?_)
      refine st_row rfl _ (.tmp 4) (.tmp 16) rfl (w.heap.size + 1) (vals z16) rfl rfl _ _ HRW.out 16 tDrop rfl rfl (vals_one _) ?_
      go_wp2
      refine ret_row_tmp2 rfl (w.heap.size + 1) (vals z16) _ rfl (setRow_heap _ _ _ _ _ _ HRW.out) 16 tDrop rfl rfl ?_
      exact ⟨below_setRow HB.out (by omega) _, _, rfl, bts_nil _ _⟩
  · rw [talkP_bad hg]
    have HF := Lib.hid hg
    clear hg
    go_enter Tryd.func14, Tryd.ntmps14
    go_wp2_with first
      | (go_at_call 46; refine (fits_any _ _ _ _ _ _ _ _ _ _ _).mono ?_; rintro e w1 ⟨_, rfl, rfl, hb⟩; rw [fitE_bad HF.out]; have HRW := Lib.hid (row_call hb (new2_1 ..)); have HB := Lib.hid (show Below w.heap.size w w1 from below_call hb (by go_grown)); clear hb)
      | ((with_reducible refine guard_list ?_); refine held_st _ _ _ rfl ?_)
    refine st_row rfl _ (.tmp 4) (.tmp 16) rfl (w.heap.size + 1) (vals z16) rfl rfl _ _ HRW.out 16 tDrop rfl rfl (vals_one _) ?_
    go_wp2
    refine ret_row_tmp2 rfl (w.heap.size + 1) (vals z16) _ rfl (setRow_heap _ _ _ _ _ _ HRW.out) 16 tDrop rfl rfl ?_
    exact ⟨below_setRow HB.out (by omega) _, _, rfl, bts_nil _ _⟩
end Go.Proofs.YtmochmpamgfboaaDoor
