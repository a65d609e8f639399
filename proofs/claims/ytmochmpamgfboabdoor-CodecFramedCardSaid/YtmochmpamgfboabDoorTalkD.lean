/- trystref00.Two, CopyBytes; trystref20.TalkRequest, TalkReply, ParseTalk, ParseReply. Condition: lengths below 2^40; bytes. -/
import Derived.Test.YtmochmpamgfboabDoorTalkC
import Derived.Test.YtmochmpamgfboabDoorBytK
namespace Go.Proofs.YtmochmpamgfboabDoor
open Go.RowKit
set_option maxHeartbeats 4000000 in
set_option maxRecDepth 100000 in
theorem copyV_any (p : Option Addr) (l : List Int) (n c : Nat) (w : World) (hn : l.length = n) (h : BytesIn w p l) (hm : n ≤ 70368744177664) :
    Calls Tryd.prog 15 #[.slice p n c] w (NewV w l) := by
  have hmk : ∀ u : World, (Instr.makeSlice 28 (.int .i64 0) (.int .i64 (n : Int))).run Tryd.prog u = .ok (.slice (some ⟨u.heap.size, 0, none⟩) 0 n) (u.alloc (.cells (vals (List.replicate n 0)) 5)) := fun u => run_make_bts u 0 n (Nat.zero_le _) (by omega)
  have H := Lib.hid h
  have HN := Lib.hid hn
  have HB0 := Lib.hid ((Below.refl w.heap.size w).alloc (Nat.le_refl _) (.cells (vals (List.replicate n 0)) 5))
  have HBT0 := Lib.hid (show Bts (w.alloc (.cells (vals (List.replicate n 0)) 5)) w.heap.size (.slice (some ⟨w.heap.size, 0, none⟩) 0 n) [] from Bts.row (l := []) (heap_alloc_new w _) (Nat.le_refl _) (Nat.zero_le _) (by simp only [maxLen]; omega) (by simp [vals_size]) rfl)
  clear h hn
  go_enter Tryd.func15, Tryd.ntmps15
  go_wp2
  go_loopw [3, 4] (fun v i wr => ∃ k, k ≤ n ∧ i = .int .i64 (k : Nat) ∧ Bts wr w.heap.size v (l.take k) ∧ Below w.heap.size w wr) (fun _ i _ => n - (intOf i).toNat)
  case atStart => exact ⟨0, by omega, rfl, HBT0.out, HB0.out⟩
  case round =>
    clear HB0 HBT0
    obtain ⟨k, hk, rfl, hbt, hb⟩ := hrel
    have HB := Lib.hid hb
    have HBT := Lib.hid hbt
    clear hb hbt
    by_cases hlt : k < n
    · obtain ⟨a2, rfl, _, x1⟩ := H.out.under HB.out (Nat.le_refl _) k (by rw [HN.out]; exact hlt)
      have HT := Lib.hid (take_bytes l k (by rw [HN.out]; exact hlt))
      have HLE := Lib.hid (show (l.take k).length + 1 ≤ 140737488355328 by
        have h4 : (l.take k).length ≤ l.length := List.length_take_le' ..
        have := HN.out
        omega)
      generalize nth l k = x at x1 HT
      go_wp2_with (at_builtin; (refine held_append _ _ rfl ?_))
      refine wpList_app1 _ _ rfl rfl rfl rfl HB.out HBT.out HLE.out fun v' w' h1 h2 _ _ => ?_
      rw [HT.out] at h1
      have H1 := Lib.hid h1
      have H2 := Lib.hid h2
      clear h1 h2
      go_wp2
      go_roundw
      case rel => exact ⟨k + 1, by omega, by go_num, H1.out, H2.out⟩
      case measure => simp [intOf]; omega
    · obtain rfl : k = n := by omega
      have HBT1 := Lib.hid (show Bts wr w.heap.size u3 l by have := HBT.out; rwa [List.take_of_length_le (Nat.le_of_eq HN.out)] at this)
      go_wp2
      exact ⟨rfl, u3, by kernel_rfl, HB.out, _, rfl, HBT1.out⟩
set_option maxHeartbeats 4000000 in
set_option maxRecDepth 100000 in
theorem two_any (p q : Option Addr) (l m : List Int) (n k c d : Nat) (w : World) (hn : l.length = n) (hk : m.length = k) (h : BytesIn w p l) (h2 : BytesIn w q m) (hp : p = none → c = 0) (hq : q = none → d = 0) (hm : n + k ≤ 70368744177664) :
    Calls Tryd.prog 17 #[.slice p n c, .slice q k d] w (NewV w (l ++ m)) := by
  subst hn hk
  have HJ := Lib.hid (join_any (some ⟨w.heap.size, 0, none⟩) 2 2 [(p, c, l), (q, d, m)] (w.alloc (.cells #[.slice p l.length c, .slice q m.length d] 28)) rfl
    ⟨fun k r hr => by
      obtain ⟨a, e, h3, h4⟩ := lit_at w #[.slice p l.length c, .slice q m.length d] 28 k (.slice r.1 r.2.2.length r.2.1) (by
        match k, hr with
        | 0, hr => obtain rfl := Option.some.inj hr; rfl
        | 1, hr => obtain rfl := Option.some.inj hr; rfl)
      exact ⟨a, e, h3, h4⟩, fun r hr => by
      simp only [List.mem_cons, List.not_mem_nil, or_false] at hr
      rcases hr with rfl | rfl
      · exact ⟨h.keep ((Below.refl _ _).alloc (Nat.le_refl _) _), hp⟩
      · exact ⟨h2.keep ((Below.refl _ _).alloc (Nat.le_refl _) _), hq⟩⟩ (by decide) (by simp [flat]; omega))
  have HF := Lib.hid (show flat [(p, c, l), (q, d, m)] = l ++ m by simp [flat])
  clear h h2 hp hq
  go_enter Tryd.func17, Tryd.ntmps17
  go_wp2_with (go_at_call 36; refine HJ.out.mono ?_; rintro e w3 ⟨hb3, v3, rfl, hv3⟩; rw [HF.out] at hv3; have HB := Lib.hid (below_call hb3 ((Below.refl _ _).alloc (Nat.le_refl _) _)); have HV := Lib.hid (hv3.low (Nat.le_trans (Nat.le_succ w.heap.size) (Nat.le_of_eq (World.size_alloc _ _).symm))); clear hb3 hv3)
  exact ⟨rfl, v3, by kernel_rfl, HB.out, v3, rfl, HV.out⟩
end Go.Proofs.YtmochmpamgfboabDoor
