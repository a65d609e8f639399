/- trystref00.Two, CopyBytes; trystref20.TalkRequest, TalkReply, ParseTalk, ParseReply. Condition: lengths below 2^40; bytes. -/
import Derived.Test.YtmochmpamgfboaaDoorTalkC
import Derived.Test.YtmochmpamgfboaaDoorBytK
namespace Go.Proofs.YtmochmpamgfboaaDoor
open Go.RowKit
set_option maxHeartbeats 4000000 in
set_option maxRecDepth 100000 in
theorem copyV_any (p : Option Addr) (l : List Int) (n c : Nat) (w : World) (hn : l.length = n) (h : BytesIn w p l) (hm : n ≤ 70368744177664) :
    Calls Tryd.prog 28 #[.slice p n c] w (NewV w l) := by
  have hmk : ∀ u : World, (Instr.makeSlice 26 (.int .i64 0) (.int .i64 (n : Int))).run Tryd.prog u = .ok (.slice (some ⟨u.heap.size, 0, none⟩) 0 n) (u.alloc (.cells (vals (List.replicate n 0)) 5)) := fun u => run_make_bts u 0 n (Nat.zero_le _) (by omega)
  have H := Lib.hid h
  have HN := Lib.hid hn
  have HB0 := Lib.hid ((Below.refl w.heap.size w).alloc (Nat.le_refl _) (.cells (vals (List.replicate n 0)) 5))
  have HBT0 := Lib.hid (show Bts (w.alloc (.cells (vals (List.replicate n 0)) 5)) w.heap.size (.slice (some ⟨w.heap.size, 0, none⟩) 0 n) [] from Bts.row (l := []) (heap_alloc_new w _) (Nat.le_refl _) (Nat.zero_le _) (by simp only [maxLen]; omega) (by simp [vals_size]) rfl)
  clear h hn
  go_enter Tryd.func28, Tryd.ntmps28
  go_wp2
  go_loopw [3, 4] (fun v i wr => ∃ k, k ≤ n ∧ i = .int .i64 (k : Nat) ∧ Bts wr w.heap.size v (l.take k) ∧ Below w.heap.size w wr) (fun _ i _ => n - (intOf i).toNat)
  case atStart => exact ⟨0, by omega, rfl, HBT0.out, HB0.out⟩
  case round =>
    clear HB0 HBT0
    obtain ⟨k, hk, rfl, hbt, hb⟩ := hrel
    have HB := Lib.hid hb
    have HBT := Lib.hid hbt
    clear hb hbt
    by_cases hlt : k < n
    · obtain ⟨a2, rfl, _, x1⟩ := H.out.under HB.out (Nat.le_refl _) k (by rw [HN.out]; exact hlt)
      have HT := Lib.hid (take_bytes l k (by rw [HN.out]; exact hlt))
      have HLE := Lib.hid (show (l.take k).length + 1 ≤ 140737488355328 by
        have h4 : (l.take k).length ≤ l.length := List.length_take_le' ..
        have := HN.out
        omega)
      generalize nth l k = x at x1 HT
      go_wp2_with (at_builtin; (refine held_append _ _ rfl ?_))
      refine wpList_app1 _ _ rfl rfl rfl rfl HB.out HBT.out HLE.out fun v' w' h1 h2 _ _ => ?_
      rw [HT.out] at h1
      have H1 := Lib.hid h1
      have H2 := Lib.hid h2
      clear h1 h2
      go_wp2
      go_roundw
      case rel => exact ⟨k + 1, by omega, by go_num, H1.out, H2.out⟩
      case measure => simp [intOf]; omega
    · obtain rfl : k = n := by omega
      have HBT1 := Lib.hid (show Bts wr w.heap.size u3 l by have := HBT.out; rwa [List.take_of_length_le (Nat.le_of_eq HN.out)] at this)
      go_wp2
      exact ⟨rfl, u3, by kernel_rfl, HB.out, _, rfl, HBT1.out⟩
set_option maxHeartbeats 4000000 in
set_option maxRecDepth 100000 in
theorem two_any (p q : Option Addr) (l m : List Int) (n k c d : Nat) (w : World) (hn : l.length = n) (hk : m.length = k) (h : BytesIn w p l) (h2 : BytesIn w q m) (hp : p = none → c = 0) (hq : q = none → d = 0) (hm : n + k ≤ 70368744177664) :
    Calls Tryd.prog 48 #[.slice p n c, .slice q k d] w (NewV w (l ++ m)) := by
  subst hn hk
  have HJ := Lib.hid (join_any (some ⟨w.heap.size, 0, none⟩) 2 2 [(p, c, l), (q, d, m)] (w.alloc (.cells #[.slice p l.length c, .slice q m.length d] 26)) rfl
    ⟨fun k r hr => by
      obtain ⟨a, e, h3, h4⟩ := lit_at w #[.slice p l.length c, .slice q m.length d] 26 k (.slice r.1 r.2.2.length r.2.1) (by
        match k, hr with
        | 0, hr => obtain rfl := Option.some.inj hr; rfl
        | 1, hr => obtain rfl := Option.some.inj hr; rfl)
      exact ⟨a, e, h3, h4⟩, fun r hr => by
      simp only [List.mem_cons, List.not_mem_nil, or_false] at hr
      rcases hr with rfl | rfl
      · exact ⟨h.keep ((Below.refl _ _).alloc (Nat.le_refl _) _), hp⟩
      · exact ⟨h2.keep ((Below.refl _ _).alloc (Nat.le_refl _) _), hq⟩⟩ (by decide) (by simp [flat]; omega))
  have HF := Lib.hid (show flat [(p, c, l), (q, d, m)] = l ++ m by simp [flat])
  clear h h2 hp hq
  go_enter Tryd.func48, Tryd.ntmps48
  go_wp2_with (go_at_call 51; refine HJ.out.mono ?_; rintro e w3 ⟨hb3, v3, rfl, hv3⟩; rw [HF.out] at hv3; have HB := Lib.hid (below_call hb3 ((Below.refl _ _).alloc (Nat.le_refl _) _)); have HV := Lib.hid (hv3.low (Nat.le_trans (Nat.le_succ w.heap.size) (Nat.le_of_eq (World.size_alloc _ _).symm))); clear hb3 hv3)
  exact ⟨rfl, v3, by kernel_rfl, HB.out, v3, rfl, HV.out⟩
set_option maxHeartbeats 4000000 in
set_option maxRecDepth 100000 in
theorem talkRequestR_any (n0 n1 n2 n3 n4 n5 : Int) (d : List Int) (hd : d.length = 16) (p : Option Addr) (n c : Nat) (m : List Int) (w : World) (hn : m.length = n) (h : BytesIn w p m) (hp : p = none → c = 0) :
    Calls Tryd.prog 10 #[.agg #[.int .i64 n0, .int .i64 n1, .int .i64 n2, .int .i64 n3, .int .i64 n4, .int .i64 n5], .agg (vals d), .slice p n c] w (Ans w (talkQ (good n0 n1 n2 n3 n4 n5) n1 d m).1 (talkQ (good n0 n1 n2 n3 n4 n5) n1 d m).2) := by
  have H := Lib.hid h
  have HN := Lib.hid hn
  have HP := Lib.hid hp
  have HD := Lib.hid hd
  clear h hn hp hd
  by_cases hg : good n0 n1 n2 n3 n4 n5 = true
  · have hmsg := good_msg hg
    have HG := Lib.hid hg
    by_cases hl : (n : Int) = n1
    · have hm : n ≤ 1099511627776 := by omega
      rw [talkQ, if_pos hg, if_pos (by rw [HN.out]; exact hl)]
      clear hg
      go_enter Tryd.func10, Tryd.ntmps10
      go_wp2_with (go_at_call 38; refine (checkR_yes HG.out _).mono ?_; rintro e w1 ⟨_, rfl, rfl, hb⟩; have hc := conf_cells (new2_0 ..) hb; have HRW := Lib.hid (row_call hb (new2_1 ..)); have HB := Lib.hid (show Below w.heap.size w w1 from below_call hb (by go_grown)); clear hb)
      clear hc
      go_loopw [8, 9] (fun v i wr => ∃ k, k ≤ 16 ∧ i = .int .i64 (k : Nat) ∧ Bts wr w1.heap.size v (d.take k) ∧ Below w1.heap.size w1 wr) (fun _ i _ => 16 - (intOf i).toNat)
      case atStart => exact ⟨0, by omega, rfl, bts_nil _ _, Below.refl _ _⟩
      case round =>
        obtain ⟨k, hk, rfl, hbt, hb⟩ := hrel
        have HBW := Lib.hid hb
        have HBT := Lib.hid hbt
        clear hb hbt
        by_cases hlt : k < 16
        · have x1 : wr.cell? ⟨w.heap.size + 1, k, none⟩ = some (.int .u8 (nth d k)) := by
            rw [HBW.out.cell (Array.getElem?_eq_some_iff.1 HRW.out).1, cell_of_row _ _ k _ _ _ HRW.out]
            exact vals_get (by rw [HD.out]; exact hlt)
          have HT := Lib.hid (take_bytes d k (by rw [HD.out]; exact hlt))
          have HLE := Lib.hid (show (d.take k).length + 1 ≤ 140737488355328 by
            have h4 : (d.take k).length ≤ d.length := List.length_take_le' ..
            have := HD.out
            omega)
          generalize nth d k = x at x1 HT
          go_wp2_with (at_builtin; (refine held_append _ _ rfl ?_))
          refine wpList_app1 _ _ rfl rfl rfl rfl HBW.out HBT.out HLE.out fun v' w' h1 h2 _ _ => ?_
          rw [HT.out] at h1
          have H1 := Lib.hid h1
          have H2 := Lib.hid h2
          clear h1 h2
          go_wp2
          go_roundw
          case rel => exact ⟨k + 1, by omega, by go_num, H1.out, H2.out⟩
          case measure => simp [intOf]; omega
        · obtain rfl : k = 16 := by omega
          have hbt := HBT.out
          rw [List.take_of_length_le (Nat.le_of_eq HD.out)] at hbt
          obtain ⟨pv, cv, rfl, hbi, hpv, _⟩ := hbt.open
          have HBI := Lib.hid hbi
          have HPV := Lib.hid hpv
          clear hbt hbi hpv
          rw [HD.out]
          go_wp2_with (go_at_call 48; refine (two_any pv p d m 16 n cv c _ HD.out HN.out HBI.out (H.out.under (below_call HBW.out HB.out) (Nat.le_refl _)) HPV.out HP.out (by omega)).mono ?_; rintro e w3 ⟨hb3, v3, rfl, hv3⟩)
          exact ⟨rfl, .tuple #[v3, .int .i64 0], by kernel_rfl, below_call hb3 (below_call HBW.out HB.out), v3, rfl, hv3.low (Nat.le_trans HB.out.size HBW.out.size)⟩
    · rw [talkQ, if_pos hg, if_neg (by rw [HN.out]; exact hl)]
      clear hg
      go_enter Tryd.func10, Tryd.ntmps10
      go_wp2_with (go_at_call 38; refine (checkR_yes HG.out _).mono ?_; rintro e w1 ⟨_, rfl, rfl, hb⟩; have hc := conf_cells (new2_0 ..) hb; have HB := Lib.hid (show Below w.heap.size w w1 from below_call hb (by go_grown)); clear hb)
      exact ⟨rfl, .tuple #[.slice none 0 0, .int .i64 4], by kernel_rfl, HB.out, _, rfl, bts_nil _ _⟩
  · rw [talkQ, if_neg hg]
    have HG := Lib.hid hg
    clear hg
    go_enter Tryd.func10, Tryd.ntmps10
    go_wp2_with (go_at_call 38; refine (checkR_no HG.out _).mono ?_; rintro e w1 ⟨_, rfl, rfl, hb⟩; have HB := Lib.hid (show Below w.heap.size w w1 from below_call hb (by go_grown)); clear hb)
    exact ⟨rfl, .tuple #[.slice none 0 0, .int .i64 200], by kernel_rfl, HB.out, _, rfl, bts_nil _ _⟩
set_option maxHeartbeats 4000000 in
set_option maxRecDepth 100000 in
theorem talkReplyR_any (n0 n1 n2 n3 n4 n5 : Int) (y : Bool) (p : Option Addr) (n c : Nat) (m : List Int) (w : World) (hn : m.length = n) (h : BytesIn w p m) (hp : p = none → c = 0) :
    Calls Tryd.prog 13 #[.agg #[.int .i64 n0, .int .i64 n1, .int .i64 n2, .int .i64 n3, .int .i64 n4, .int .i64 n5], .bool y, .slice p n c] w (Ans w (replyQ (good n0 n1 n2 n3 n4 n5) n1 y m).1 (replyQ (good n0 n1 n2 n3 n4 n5) n1 y m).2) := by
  have H := Lib.hid h
  have HN := Lib.hid hn
  have HP := Lib.hid hp
  clear h hn hp
  by_cases hg : good n0 n1 n2 n3 n4 n5 = true
  · have hmsg := good_msg hg
    have HG := Lib.hid hg
    by_cases hl : (n : Int) = n1
    · have hm : n ≤ 1099511627776 := by omega
      rw [replyQ, if_pos hg, if_pos (by rw [HN.out]; exact hl)]
      clear hg
      cases y with
      | true =>
        rw [if_pos rfl]
        go_enter Tryd.func13, Tryd.ntmps13
        go_wp2_with first
          | (go_at_call 38; refine (checkR_yes HG.out _).mono ?_; rintro e w1 ⟨_, rfl, rfl, hb⟩; have hc := conf_cells (heap_alloc_new w _) hb; have HB := Lib.hid (show Below w.heap.size w w1 from below_call hb (by go_grown)); clear hb)
          | (go_at_call 48; refine (two_any _ p [1] m 1 n 1 c _ rfl HN.out (bytesIn_one w1 1) (H.out.under (HB.out.alloc HB.out.size _) (Nat.le_refl _)) (fun h => by cases h) HP.out (by omega)).mono ?_; rintro e w3 ⟨hb3, v3, rfl, hv3⟩; have HB2 := Lib.hid (below_call hb3 (HB.out.alloc HB.out.size _)); have HV := Lib.hid (hv3.low (Nat.le_trans HB.out.size (Nat.le_trans (Nat.le_succ w1.heap.size) (Nat.le_of_eq (World.size_alloc _ _).symm)))); clear hb3 hv3)
        exact ⟨rfl, .tuple #[v3, .int .i64 0], by kernel_rfl, HB2.out, v3, rfl, HV.out⟩
      | false =>
        rw [if_neg (by decide), HN.out]
        subst hl
        have hmk : ∀ u : World, (Instr.makeSlice 26 (.int .i64 (1 + (n : Int))) (.int .i64 (1 + (n : Int)))).run Tryd.prog u = .ok (.slice (some ⟨u.heap.size, 0, none⟩) (n + 1) (n + 1)) (u.alloc (.cells (vals (List.replicate (n + 1) 0)) 5)) := fun u => by
          have e : (1 + (n : Int)) = ((n + 1 : Nat) : Int) := by omega
          rw [e]
          exact run_make_bts u (n + 1) (n + 1) (Nat.le_refl _) (by omega)
        go_enter Tryd.func13, Tryd.ntmps13
        go_wp2_with (go_at_call 38; refine (checkR_yes HG.out _).mono ?_; rintro e w1 ⟨_, rfl, rfl, hb⟩; have hc := conf_cells (heap_alloc_new w _) hb; have HB := Lib.hid (show Below w.heap.size w w1 from below_call hb (by go_grown)); clear hb)
        exact ⟨rfl, .tuple #[.slice (some ⟨w1.heap.size, 0, none⟩) (n + 1) (n + 1), .int .i64 0], by kernel_rfl, HB.out.alloc HB.out.size _, _, rfl, bts_zeros (n + 1) HB.out.size (by omega)⟩
    · rw [replyQ, if_pos hg, if_neg (by rw [HN.out]; exact hl)]
      clear hg
      go_enter Tryd.func13, Tryd.ntmps13
      go_wp2_with (go_at_call 38; refine (checkR_yes HG.out _).mono ?_; rintro e w1 ⟨_, rfl, rfl, hb⟩; have hc := conf_cells (heap_alloc_new w _) hb; have HB := Lib.hid (show Below w.heap.size w w1 from below_call hb (by go_grown)); clear hb)
      exact ⟨rfl, .tuple #[.slice none 0 0, .int .i64 4], by kernel_rfl, HB.out, _, rfl, bts_nil _ _⟩
  · rw [replyQ, if_neg hg]
    have HG := Lib.hid hg
    clear hg
    go_enter Tryd.func13, Tryd.ntmps13
    go_wp2_with (go_at_call 38; refine (checkR_no HG.out _).mono ?_; rintro e w1 ⟨_, rfl, rfl, hb⟩; have HB := Lib.hid (show Below w.heap.size w w1 from below_call hb (by go_grown)); clear hb)
    exact ⟨rfl, .tuple #[.slice none 0 0, .int .i64 200], by kernel_rfl, HB.out, _, rfl, bts_nil _ _⟩
end Go.Proofs.YtmochmpamgfboaaDoor
