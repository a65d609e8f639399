/- The walk of CodecBack. Condition: the program's variable errors.errorType is as its text lays it. -/
import Derived.Test.YtmochmpamgfboabDoorBackA
namespace Go.Proofs.YtmochmpamgfboabDoor
open Go.RowKit
theorem eq_own2 {p q : Option Addr} {n c c' : Nat} {w : World} {l : List Int} (hn : l.length = n) (h1 : BytesIn w p l) (h2 : BytesIn w q l) (hm : n ≤ 140737488355328) : Calls Tryd.prog 24 #[.slice p n c, .slice q n c'] w (Gives (· = .bool true) w) :=
  (eqBytes_any p q l l n n c c' w hn hn h1 h2 (by omega)).mono fun _ _ ⟨r, e1, e2, e3⟩ => ⟨r, e1, e2.trans (by rw [decide_eq_true rfl]), e3⟩
set_option maxHeartbeats 16000000 in
set_option maxRecDepth 100000 in
theorem codecBack_bad (n0 n1 n2 n3 n4 n5 : Int) (x0 x1 x2 x3 x4 x5 x6 x7 x8 x9 x10 x11 x12 x13 x14 x15 : Int) (y : Bool) (pm qb : Option Addr) (nm cm nb cb : Nat) (k : Int) (w : World) (hg : ¬ good n0 n1 n2 n3 n4 n5 = true) :
    Calls Tryd.prog 5 #[.agg #[.int .i64 n0, .int .i64 n1, .int .i64 n2, .int .i64 n3, .int .i64 n4, .int .i64 n5, .int .u8 x0, .int .u8 x1, .int .u8 x2, .int .u8 x3, .int .u8 x4, .int .u8 x5, .int .u8 x6, .int .u8 x7, .int .u8 x8, .int .u8 x9, .int .u8 x10, .int .u8 x11, .int .u8 x12, .int .u8 x13, .int .u8 x14, .int .u8 x15, .bool y, .slice pm nm cm, .slice qb nb cb], .int .i64 k] w (fun e w' => e = .returned (.bool true) ∧ Below w.heap.size w w') := by
  have HG := Lib.hid hg
  have HROW := Lib.hid (heap_alloc_new w (.cells #[.int .i64 n0, .int .i64 n1, .int .i64 n2, .int .i64 n3, .int .i64 n4, .int .i64 n5, .int .u8 x0, .int .u8 x1, .int .u8 x2, .int .u8 x3, .int .u8 x4, .int .u8 x5, .int .u8 x6, .int .u8 x7, .int .u8 x8, .int .u8 x9, .int .u8 x10, .int .u8 x11, .int .u8 x12, .int .u8 x13, .int .u8 x14, .int .u8 x15, .bool y, .slice pm nm cm, .slice qb nb cb] 44))
  have HB := Lib.hid ((Below.refl w.heap.size w).alloc (Nat.le_refl _) (.cells #[.int .i64 n0, .int .i64 n1, .int .i64 n2, .int .i64 n3, .int .i64 n4, .int .i64 n5, .int .u8 x0, .int .u8 x1, .int .u8 x2, .int .u8 x3, .int .u8 x4, .int .u8 x5, .int .u8 x6, .int .u8 x7, .int .u8 x8, .int .u8 x9, .int .u8 x10, .int .u8 x11, .int .u8 x12, .int .u8 x13, .int .u8 x14, .int .u8 x15, .bool y, .slice pm nm cm, .slice qb nb cb] 44))
  have hT : True := trivial
  have hT5 : True := trivial
  have S5 : True := trivial
  have HDC := Lib.hid (show ∀ (w' : World) (t : TypeId), w'.heap[w.heap.size]? = some (.cells #[.int .i64 n0, .int .i64 n1, .int .i64 n2, .int .i64 n3, .int .i64 n4, .int .i64 n5, .int .u8 x0, .int .u8 x1, .int .u8 x2, .int .u8 x3, .int .u8 x4, .int .u8 x5, .int .u8 x6, .int .u8 x7, .int .u8 x8, .int .u8 x9, .int .u8 x10, .int .u8 x11, .int .u8 x12, .int .u8 x13, .int .u8 x14, .int .u8 x15, .bool y, .slice pm nm cm, .slice qb nb cb] t (0, 0)) → CellsAt w' ⟨w.heap.size, 0, none⟩ #[.int .i64 n0, .int .i64 n1, .int .i64 n2, .int .i64 n3, .int .i64 n4, .int .i64 n5] from fun w' t h => row_part h (fun j v hv => by
    rcases (show j = 0 ∨ j = 1 ∨ j = 2 ∨ j = 3 ∨ j = 4 ∨ j = 5 by have := (Array.getElem?_eq_some_iff.1 hv).1; simp at this; omega) with rfl | rfl | rfl | rfl | rfl | rfl <;> exact hv))
  clear hg
  go_enter Tryd.func5, Tryd.ntmps5
  go_wp2_with first
    | (go_at_call 8; refine (awake_ev _).mono ?_; rintro e w1 ⟨_, rfl, rfl, hb⟩; replace HROW := Lib.hid (row_call hb HROW.out); replace HB := Lib.hid (below_call hb HB.out); clear hb; clear hT; have hT := conf_cells HROW.out (Below.refl _ _))
    | ((with_reducible refine guard_list ?_); refine held_load 23 _ rfl ?_; refine wpl_ld_at rfl _ _ rfl ⟨w.heap.size, 0, none⟩ rfl (#[.int .i64 n0, .int .i64 n1, .int .i64 n2, .int .i64 n3, .int .i64 n4, .int .i64 n5]) 6 tConf rfl (HDC.out _ _ HROW.out) ?_)
    | ((with_reducible refine guard_list ?_); refine held_st 23 _ _ rfl ?_; refine st_row rfl _ _ _ rfl _ (#[.int .i64 n0, .int .i64 n1, .int .i64 n2, .int .i64 n3, .int .i64 n4, .int .i64 n5]) rfl rfl _ _ (heap_alloc_new w1 _) 6 tConf rfl rfl (by simp [Value.oneCell']) ?_; rw [World.setRow_alloc_new]; have hb := (Below.refl w1.heap.size w1).alloc (Nat.le_refl _) (.cells (#[.int .i64 n0, .int .i64 n1, .int .i64 n2, .int .i64 n3, .int .i64 n4, .int .i64 n5]) 23); have HC5 := Lib.hid (heap_alloc_new w1 (.cells (#[.int .i64 n0, .int .i64 n1, .int .i64 n2, .int .i64 n3, .int .i64 n4, .int .i64 n5]) 23)); replace HROW := Lib.hid (row_call hb HROW.out); replace HB := Lib.hid (below_call hb HB.out); clear hb; clear hT; have hT := conf_cells HROW.out (Below.refl _ _); clear hT5; have hT5 := conf_cells HC5.out (Below.refl _ _); clear S5)
    | ((with_reducible refine guard_list ?_); refine held_load 23 _ rfl ?_; refine wpl_ld_at rfl _ _ rfl ⟨w1.heap.size, 0, none⟩ rfl (#[.int .i64 n0, .int .i64 n1, .int .i64 n2, .int .i64 n3, .int .i64 n4, .int .i64 n5]) 6 tConf rfl (row_part (o := 0) HC5.out (fun j v hv => by rwa [Nat.zero_add])) ?_)
    | (go_at_call 18; refine (putConfig_no HG.out _).mono ?_; rintro e w2 ⟨_, rfl, rfl, hb⟩; replace HROW := Lib.hid (row_call hb HROW.out); replace HC5 := Lib.hid (row_call hb HC5.out); replace HB := Lib.hid (below_call hb HB.out); clear hb; clear hT; have hT := conf_cells HROW.out (Below.refl _ _); clear hT5; have hT5 := conf_cells HC5.out (Below.refl _ _))
    | (go_at_call 9; refine (check_no HG.out _).mono ?_; rintro e w3 ⟨_, rfl, rfl, hb⟩; replace HROW := Lib.hid (row_call hb HROW.out); replace HC5 := Lib.hid (row_call hb HC5.out); replace HB := Lib.hid (below_call hb HB.out); clear hb; clear hT; have hT := conf_cells HROW.out (Below.refl _ _); clear hT5; have hT5 := conf_cells HC5.out (Below.refl _ _))
  exact ⟨rfl, .bool true, by kernel_rfl, rfl, HB.out⟩
set_option maxHeartbeats 16000000 in
set_option maxRecDepth 100000 in
theorem codecBack_good (n0 n2 n3 n4 n5 : Int) (N1 : Nat) (x0 x1 x2 x3 x4 x5 x6 x7 x8 x9 x10 x11 x12 x13 x14 x15 : Int) (y : Bool) (pm qb : Option Addr) (m B : List Int) (nm cm nb cb : Nat) (k : Int) (w : World) (hg : good n0 N1 n2 n3 n4 n5 = true) (hh : Handle w) (lm : m.length = nm) (bm : Byt m) (im : BytesIn w pm m) (zm : nm ≤ 140737488355328)
    (lB : B.length = nb) (bB : Byt B) (iB : BytesIn w qb B) (zB : nb ≤ 140737488355328) :
    Calls Tryd.prog 5 #[.agg #[.int .i64 n0, .int .i64 N1, .int .i64 n2, .int .i64 n3, .int .i64 n4, .int .i64 n5, .int .u8 x0, .int .u8 x1, .int .u8 x2, .int .u8 x3, .int .u8 x4, .int .u8 x5, .int .u8 x6, .int .u8 x7, .int .u8 x8, .int .u8 x9, .int .u8 x10, .int .u8 x11, .int .u8 x12, .int .u8 x13, .int .u8 x14, .int .u8 x15, .bool y, .slice pm nm cm, .slice qb nb cb], .int .i64 k] w (fun e w' => e = .returned (.bool true) ∧ Below w.heap.size w w') := by
  have hms := good_msg hg
  have hbk := good_buckets hg
  have HG := Lib.hid hg
  obtain ⟨m1, hm1⟩ : ∃ m1, m1 = sizedL m N1 := ⟨_, rfl⟩
  obtain ⟨m2, hm2⟩ : ∃ m2, m2 = sizedL B 88 := ⟨_, rfl⟩
  have HL1 := Lib.hid (show m1.length = N1 by rw [hm1, sizedL_len])
  have HL2 := Lib.hid (show m2.length = 88 by rw [hm2, sizedL_len])
  have HY1 := Lib.hid (show Byt m1 by rw [hm1]; exact sizedL_byt bm _)
  have HY2 := Lib.hid (show Byt m2 by rw [hm2]; exact sizedL_byt bB _)
  have HLD := Lib.hid (show ([x0, x1, x2, x3, x4, x5, x6, x7, x8, x9, x10, x11, x12, x13, x14, x15] ++ m1).length = 16 + N1 by rw [List.length_append, HL1.out]; rfl)
  have HS1 := Lib.hid (show ∀ w', Below w.heap.size w w' → Calls Tryd.prog 11 #[.slice pm nm cm, .int .i64 N1] w' (NewV w' m1) from fun w' h => by
    rw [hm1]; exact sized_any pm m nm cm N1 w' lm (im.under h (Nat.le_refl _)) (by omega) zm)
  have HS2 := Lib.hid (show ∀ w', Below w.heap.size w w' → Calls Tryd.prog 11 #[.slice qb nb cb, .int .i64 88] w' (NewV w' m2) from fun w' h => by
    rw [hm2]; exact sized_any qb B nb cb 88 w' lB (iB.under h (Nat.le_refl _)) (by omega) zB)
  have HT := Lib.hid (show ∀ w' p c, BytesIn w' p m1 → (p = none → c = 0) → Calls Tryd.prog 22 #[.agg #[.int .i64 n0, .int .i64 N1, .int .i64 n2, .int .i64 n3, .int .i64 n4, .int .i64 n5], .agg (vals [x0, x1, x2, x3, x4, x5, x6, x7, x8, x9, x10, x11, x12, x13, x14, x15]), .slice p N1 c] w' (Ans w' ([x0, x1, x2, x3, x4, x5, x6, x7, x8, x9, x10, x11, x12, x13, x14, x15] ++ m1) 0) from fun w' p c h hp => by
    have h1 := talkRequest_any n0 N1 n2 n3 n4 n5 [x0, x1, x2, x3, x4, x5, x6, x7, x8, x9, x10, x11, x12, x13, x14, x15] rfl p N1 c m1 w' HL1.out h hp
    rwa [talkQ, if_pos hg, if_pos (by rw [HL1.out])] at h1)
  have HPT := Lib.hid (show ∀ w' p c, BytesIn w' p ([x0, x1, x2, x3, x4, x5, x6, x7, x8, x9, x10, x11, x12, x13, x14, x15] ++ m1) → 16 + N1 ≤ c → Calls Tryd.prog 23 #[.agg #[.int .i64 n0, .int .i64 N1, .int .i64 n2, .int .i64 n3, .int .i64 n4, .int .i64 n5], .slice p (16 + N1) c] w' (AnsD w' [x0, x1, x2, x3, x4, x5, x6, x7, x8, x9, x10, x11, x12, x13, x14, x15] m1 0) from fun w' p c h hc => by
    have h1 := parseTalk_any n0 N1 n2 n3 n4 n5 p (16 + N1) c ([x0, x1, x2, x3, x4, x5, x6, x7, x8, x9, x10, x11, x12, x13, x14, x15] ++ m1) w' HLD.out h hc
    rwa [talkP_back hg rfl (by rw [HL1.out])] at h1)
  obtain ⟨r1, hr1⟩ : ∃ r1, r1 = (if y = true then 1 :: m1 else List.replicate (N1 + 1) 0) := ⟨_, rfl⟩
  obtain ⟨t1, ht1⟩ : ∃ t1, t1 = (if y = true then m1 else List.replicate N1 0) := ⟨_, rfl⟩
  have HLR := Lib.hid (show r1.length = N1 + 1 by rw [hr1]; split <;> simp [HL1.out])
  have HLT := Lib.hid (show t1.length = N1 by rw [ht1]; split <;> simp [HL1.out])
  have HT1 := Lib.hid ht1
  have HTR := Lib.hid (show ∀ w' p c, BytesIn w' p m1 → (p = none → c = 0) → Calls Tryd.prog 25 #[.agg #[.int .i64 n0, .int .i64 N1, .int .i64 n2, .int .i64 n3, .int .i64 n4, .int .i64 n5], .bool y, .slice p N1 c] w' (Ans w' r1 0) from fun w' p c h hp => by
    have h1 := talkReply_any n0 N1 n2 n3 n4 n5 y p N1 c m1 w' HL1.out h hp
    rwa [replyQ, if_pos hg, if_pos (by rw [HL1.out]), HL1.out, ← hr1] at h1)
  have HPR := Lib.hid (show ∀ w' p c, BytesIn w' p r1 → N1 + 1 ≤ c → Calls Tryd.prog 26 #[.agg #[.int .i64 n0, .int .i64 N1, .int .i64 n2, .int .i64 n3, .int .i64 n4, .int .i64 n5], .slice p (N1 + 1) c] w' (AnsB w' y t1 0) from fun w' p c h hc => by
    cases y with
    | true =>
      rw [if_pos rfl] at hr1 ht1
      subst hr1; subst ht1
      have h1 := parseReply_any n0 N1 n2 n3 n4 n5 p (N1 + 1) c (1 :: t1) w' (by rw [List.length_cons, HL1.out]) (fun x hx => by
        rcases List.mem_cons.1 hx with rfl | h2
        · decide
        · exact HY1.out x h2) h hc
      rwa [replyP_yes hg (by rw [HL1.out])] at h1
    | false =>
      rw [if_neg (by decide)] at hr1 ht1
      subst hr1; subst ht1
      have h1 := parseReply_any n0 N1 n2 n3 n4 n5 p (N1 + 1) c (List.replicate (N1 + 1) 0) w' (by simp) (fun x hx => by
        obtain ⟨_, rfl⟩ := List.mem_replicate.1 hx
        decide) h hc
      rwa [replyP_no hg] at h1)
  have HDR := Lib.hid (show ∀ w' p c, BytesIn w' p m2 → (p = none → c = 0) → Below w.heap.size w w' → Calls Tryd.prog 27 #[.agg #[.int .i64 n0, .int .i64 N1, .int .i64 n2, .int .i64 n3, .int .i64 n4, .int .i64 n5], .int .i64 k, .slice p 88 c] w' (Ans w' (dialQ (good n0 N1 n2 n3 n4 n5) n2 k m2).1 (dialQ (good n0 N1 n2 n3 n4 n5) n2 k m2).2) from fun w' p c h hp hb =>
    dialRequest_any n0 N1 n2 n3 n4 n5 k p 88 c m2 w' (hh.keep hb) HL2.out h hp)
  have HPD := Lib.hid (show 0 ≤ k ∧ k < n2 → ∀ w' p c, BytesIn w' p (le4 k ++ m2) → Calls Tryd.prog 28 #[.agg #[.int .i64 n0, .int .i64 N1, .int .i64 n2, .int .i64 n3, .int .i64 n4, .int .i64 n5], .slice p 92 c] w' (AnsN w' k m2 0) from fun hk w' p c h => by
    have h1 := parseDial_any n0 N1 n2 n3 n4 n5 p 92 c (le4 k ++ m2) w' (by rw [List.length_append, le4_len, HL2.out]) (fun x hx => by
      rcases List.mem_append.1 hx with h2 | h2
      · exact le4_byt k x h2
      · exact HY2.out x h2) h
    rwa [dialP_back hg hk.1 hk.2 hbk.2 HL2.out] at h1)
  have HM1 := Lib.hid (show msr n0 (N1 : Int) n2 n3 n4 n5 1 = (16 + (N1 : Int), 1 + (N1 : Int), 26 + (N1 : Int), (0 : Int)) by rw [msr, if_pos hg, if_pos rfl])
  have HM2 := Lib.hid (show msr n0 (N1 : Int) n2 n3 n4 n5 2 = ((92 : Int), (16 : Int), (114 : Int), (0 : Int)) by rw [msr, if_pos hg, if_neg (by decide), if_pos rfl])
  have HROW := Lib.hid (heap_alloc_new w (.cells #[.int .i64 n0, .int .i64 N1, .int .i64 n2, .int .i64 n3, .int .i64 n4, .int .i64 n5, .int .u8 x0, .int .u8 x1, .int .u8 x2, .int .u8 x3, .int .u8 x4, .int .u8 x5, .int .u8 x6, .int .u8 x7, .int .u8 x8, .int .u8 x9, .int .u8 x10, .int .u8 x11, .int .u8 x12, .int .u8 x13, .int .u8 x14, .int .u8 x15, .bool y, .slice pm nm cm, .slice qb nb cb] 44))
  have HB := Lib.hid ((Below.refl w.heap.size w).alloc (Nat.le_refl _) (.cells #[.int .i64 n0, .int .i64 N1, .int .i64 n2, .int .i64 n3, .int .i64 n4, .int .i64 n5, .int .u8 x0, .int .u8 x1, .int .u8 x2, .int .u8 x3, .int .u8 x4, .int .u8 x5, .int .u8 x6, .int .u8 x7, .int .u8 x8, .int .u8 x9, .int .u8 x10, .int .u8 x11, .int .u8 x12, .int .u8 x13, .int .u8 x14, .int .u8 x15, .bool y, .slice pm nm cm, .slice qb nb cb] 44))
  have hT : True := trivial
  have hT5 : True := trivial
  have S5 : True := trivial
  have S8 : True := trivial
  have S15 : True := trivial
  have TA : True := trivial
  have TB : True := trivial
  have TC : True := trivial
  have TD : True := trivial
  have TE : True := trivial
  have TF : True := trivial
  have TG : True := trivial
  have TH : True := trivial
  have hmk : ∀ u : World, (Instr.makeSlice 28 (.int .i64 (N1 : Int)) (.int .i64 (N1 : Int))).run Tryd.prog u = .ok (.slice (some ⟨u.heap.size, 0, none⟩) N1 N1) (u.alloc (.cells (vals (List.replicate N1 0)) 5)) := fun u => run_make_bts u N1 N1 (Nat.le_refl _) (by omega)
  have HDC := Lib.hid (show ∀ (w' : World) (t : TypeId), w'.heap[w.heap.size]? = some (.cells #[.int .i64 n0, .int .i64 N1, .int .i64 n2, .int .i64 n3, .int .i64 n4, .int .i64 n5, .int .u8 x0, .int .u8 x1, .int .u8 x2, .int .u8 x3, .int .u8 x4, .int .u8 x5, .int .u8 x6, .int .u8 x7, .int .u8 x8, .int .u8 x9, .int .u8 x10, .int .u8 x11, .int .u8 x12, .int .u8 x13, .int .u8 x14, .int .u8 x15, .bool y, .slice pm nm cm, .slice qb nb cb] t (0, 0)) → CellsAt w' ⟨w.heap.size, 0, none⟩ #[.int .i64 n0, .int .i64 N1, .int .i64 n2, .int .i64 n3, .int .i64 n4, .int .i64 n5] from fun w' t h => row_part h (fun j v hv => by
    rcases (show j = 0 ∨ j = 1 ∨ j = 2 ∨ j = 3 ∨ j = 4 ∨ j = 5 by have := (Array.getElem?_eq_some_iff.1 hv).1; simp at this; omega) with rfl | rfl | rfl | rfl | rfl | rfl <;> exact hv))
  have HDD := Lib.hid (show ∀ (w' : World) (t : TypeId), w'.heap[w.heap.size]? = some (.cells #[.int .i64 n0, .int .i64 N1, .int .i64 n2, .int .i64 n3, .int .i64 n4, .int .i64 n5, .int .u8 x0, .int .u8 x1, .int .u8 x2, .int .u8 x3, .int .u8 x4, .int .u8 x5, .int .u8 x6, .int .u8 x7, .int .u8 x8, .int .u8 x9, .int .u8 x10, .int .u8 x11, .int .u8 x12, .int .u8 x13, .int .u8 x14, .int .u8 x15, .bool y, .slice pm nm cm, .slice qb nb cb] t (0, 0)) → CellsAt w' ⟨w.heap.size, 6, none⟩ (vals [x0, x1, x2, x3, x4, x5, x6, x7, x8, x9, x10, x11, x12, x13, x14, x15]) from fun w' t h => row_part h (fun j v hv => by
    rcases (show j = 0 ∨ j = 1 ∨ j = 2 ∨ j = 3 ∨ j = 4 ∨ j = 5 ∨ j = 6 ∨ j = 7 ∨ j = 8 ∨ j = 9 ∨ j = 10 ∨ j = 11 ∨ j = 12 ∨ j = 13 ∨ j = 14 ∨ j = 15 by have := (Array.getElem?_eq_some_iff.1 hv).1; simp [vals] at this; omega) with rfl | rfl | rfl | rfl | rfl | rfl | rfl | rfl | rfl | rfl | rfl | rfl | rfl | rfl | rfl | rfl <;> exact hv))
  clear hg hh lm bm im zm lB bB iB zB hm1 hm2 hr1 ht1
  go_enter Tryd.func5, Tryd.ntmps5
  go_wp2_with first
    | (go_at_call 8; refine (awake_ev _).mono ?_; rintro e w1 ⟨_, rfl, rfl, hb⟩; replace HROW := Lib.hid (row_call hb HROW.out); replace HB := Lib.hid (below_call hb HB.out); clear hb; clear hT; have hT := conf_cells HROW.out (Below.refl _ _))
    | ((with_reducible refine guard_list ?_); refine held_load 23 _ rfl ?_; refine wpl_ld_at rfl _ _ rfl ⟨w.heap.size, 0, none⟩ rfl (#[.int .i64 n0, .int .i64 N1, .int .i64 n2, .int .i64 n3, .int .i64 n4, .int .i64 n5]) 6 tConf rfl (HDC.out _ _ HROW.out) ?_)
    | ((with_reducible refine guard_list ?_); refine held_st 23 _ _ rfl ?_; refine st_row rfl _ _ _ rfl _ (#[.int .i64 n0, .int .i64 N1, .int .i64 n2, .int .i64 n3, .int .i64 n4, .int .i64 n5]) rfl rfl _ _ (heap_alloc_new w1 _) 6 tConf rfl rfl (by simp [Value.oneCell']) ?_; rw [World.setRow_alloc_new]; have hb := (Below.refl w1.heap.size w1).alloc (Nat.le_refl _) (.cells (#[.int .i64 n0, .int .i64 N1, .int .i64 n2, .int .i64 n3, .int .i64 n4, .int .i64 n5]) 23); have HC5 := Lib.hid (heap_alloc_new w1 (.cells (#[.int .i64 n0, .int .i64 N1, .int .i64 n2, .int .i64 n3, .int .i64 n4, .int .i64 n5]) 23)); replace HROW := Lib.hid (row_call hb HROW.out); replace HB := Lib.hid (below_call hb HB.out); clear hb; clear hT; have hT := conf_cells HROW.out (Below.refl _ _); clear hT5; have hT5 := conf_cells HC5.out (Below.refl _ _); clear S5)
    | ((with_reducible refine guard_list ?_); refine held_load 23 _ rfl ?_; refine wpl_ld_at rfl _ _ rfl ⟨w1.heap.size, 0, none⟩ rfl (#[.int .i64 n0, .int .i64 N1, .int .i64 n2, .int .i64 n3, .int .i64 n4, .int .i64 n5]) 6 tConf rfl (row_part (o := 0) HC5.out (fun j v hv => by rwa [Nat.zero_add])) ?_)
    | (go_at_call 18; refine ((fun (_ : True) => putConfig_yes HG.out _) TA).mono ?_; rintro e w2 ⟨hb, v2, rfl, hv2⟩; obtain ⟨p2, c2, rfl, hi2, hp2, _, hl2, _⟩ := hv2.open; rw [confL_len]; have BI2 := Lib.hid hi2; have HP2 := Lib.hid hp2; have HCP2 := Lib.hid hl2; clear hi2 hp2 hl2 hv2; replace HROW := Lib.hid (row_call hb HROW.out); replace HC5 := Lib.hid (row_call hb HC5.out); replace HB := Lib.hid (below_call hb HB.out); clear hb; clear hT; have hT := conf_cells HROW.out (Below.refl _ _); clear hT5; have hT5 := conf_cells HC5.out (Below.refl _ _); clear TA)
    | (go_at_call 9; refine (check_yes HG.out _).mono ?_; rintro e w3 ⟨_, rfl, rfl, hb⟩; replace HROW := Lib.hid (row_call hb HROW.out); replace HC5 := Lib.hid (row_call hb HC5.out); replace BI2 := Lib.hid (BI2.out.keep hb); replace HB := Lib.hid (below_call hb HB.out); clear hb; clear hT; have hT := conf_cells HROW.out (Below.refl _ _); clear hT5; have hT5 := conf_cells HC5.out (Below.refl _ _))
    | (go_at_call 19; refine (parse_conf HG.out p2 c2 _ BI2.out).mono ?_; rintro e w4 ⟨_, rfl, rfl, hb⟩; replace HROW := Lib.hid (row_call hb HROW.out); replace HC5 := Lib.hid (row_call hb HC5.out); replace HB := Lib.hid (below_call hb HB.out); clear hb; clear hT; have hT := conf_cells HROW.out (Below.refl _ _); clear hT5; have hT5 := conf_cells HC5.out (Below.refl _ _))
    | ((with_reducible refine guard_list ?_); refine held_st 23 _ _ rfl ?_; refine st_row rfl _ _ _ rfl _ (#[.int .i64 n0, .int .i64 N1, .int .i64 n2, .int .i64 n3, .int .i64 n4, .int .i64 n5]) rfl rfl _ _ (heap_alloc_new w4 _) 6 tConf rfl rfl (by simp [Value.oneCell']) ?_; rw [World.setRow_alloc_new]; have hb := (Below.refl w4.heap.size w4).alloc (Nat.le_refl _) (.cells (#[.int .i64 n0, .int .i64 N1, .int .i64 n2, .int .i64 n3, .int .i64 n4, .int .i64 n5]) 23); have HC8 := Lib.hid (heap_alloc_new w4 (.cells (#[.int .i64 n0, .int .i64 N1, .int .i64 n2, .int .i64 n3, .int .i64 n4, .int .i64 n5]) 23)); replace HROW := Lib.hid (row_call hb HROW.out); replace HC5 := Lib.hid (row_call hb HC5.out); replace HB := Lib.hid (below_call hb HB.out); clear hb; clear hT; have hT := conf_cells HROW.out (Below.refl _ _); clear hT5; have hT5 := conf_cells HC5.out (Below.refl _ _); clear S8)
    | ((with_reducible refine guard_list ?_); refine held_load 23 _ rfl ?_; refine wpl_ld_at rfl _ _ rfl ⟨w4.heap.size, 0, none⟩ rfl (#[.int .i64 n0, .int .i64 N1, .int .i64 n2, .int .i64 n3, .int .i64 n4, .int .i64 n5]) 6 tConf rfl (row_part (o := 0) HC8.out (fun j v hv => by rwa [Nat.zero_add])) ?_)
    | (go_at_call 11; refine (HS1.out _ HB.out).mono ?_; rintro e w5 ⟨hb, v5, rfl, hv5⟩; obtain ⟨p5, c5, rfl, hi5, hp5, _, hl5, _⟩ := hv5.open; rw [HL1.out]; have BI5 := Lib.hid hi5; have HP5 := Lib.hid hp5; have HCP5 := Lib.hid hl5; clear hi5 hp5 hl5 hv5; replace HROW := Lib.hid (row_call hb HROW.out); replace HC5 := Lib.hid (row_call hb HC5.out); replace HB := Lib.hid (below_call hb HB.out); clear hb; clear hT; have hT := conf_cells HROW.out (Below.refl _ _); clear hT5; have hT5 := conf_cells HC5.out (Below.refl _ _); clear HS1)
    | (go_at_call 20; refine ((fun (_ : True) => RequestSize_ev HM1.out _) TB).mono ?_; rintro e wr1 ⟨_, rfl, rfl, hb⟩; replace HROW := Lib.hid (row_call hb HROW.out); replace HC5 := Lib.hid (row_call hb HC5.out); replace BI5 := Lib.hid (BI5.out.keep hb); replace HB := Lib.hid (below_call hb HB.out); clear hb; clear hT; have hT := conf_cells HROW.out (Below.refl _ _); clear hT5; have hT5 := conf_cells HC5.out (Below.refl _ _); clear TB)
    | (go_at_call 21; refine ((fun (_ : True) => ReplySize_ev HM1.out _) TC).mono ?_; rintro e wr2 ⟨_, rfl, rfl, hb⟩; replace HROW := Lib.hid (row_call hb HROW.out); replace HC5 := Lib.hid (row_call hb HC5.out); replace BI5 := Lib.hid (BI5.out.keep hb); replace HB := Lib.hid (below_call hb HB.out); clear hb; clear hT; have hT := conf_cells HROW.out (Below.refl _ _); clear hT5; have hT5 := conf_cells HC5.out (Below.refl _ _); clear TC)
    | (go_at_call 22; refine (HT.out _ p5 c5 BI5.out HP5.out).mono ?_; rintro e w6 ⟨hb, v6, rfl, hv6⟩; obtain ⟨p6, c6, rfl, hi6, hp6, _, hl6, _⟩ := hv6.open; rw [HLD.out]; rw [HLD.out] at hl6; have BI6 := Lib.hid hi6; have HP6 := Lib.hid hp6; have HCP6 := Lib.hid hl6; clear hi6 hp6 hl6 hv6; replace HROW := Lib.hid (row_call hb HROW.out); replace HC5 := Lib.hid (row_call hb HC5.out); replace BI5 := Lib.hid (BI5.out.keep hb); replace HB := Lib.hid (below_call hb HB.out); clear hb; clear hT; have hT := conf_cells HROW.out (Below.refl _ _); clear hT5; have hT5 := conf_cells HC5.out (Below.refl _ _); clear HT)
    | (go_at_call 23; refine (HPT.out _ p6 c6 BI6.out HCP6.out).mono ?_; rintro e w7 ⟨hb, v7, rfl, hv7⟩; obtain ⟨p7, c7, rfl, hi7, hp7, _, hl7, _⟩ := hv7.open; rw [HL1.out]; have BI7 := Lib.hid hi7; have HP7 := Lib.hid hp7; have HCP7 := Lib.hid hl7; clear hi7 hp7 hl7 hv7; replace HROW := Lib.hid (row_call hb HROW.out); replace HC5 := Lib.hid (row_call hb HC5.out); replace BI5 := Lib.hid (BI5.out.keep hb); replace BI6 := Lib.hid (BI6.out.keep hb); replace HB := Lib.hid (below_call hb HB.out); clear hb; clear hT; have hT := conf_cells HROW.out (Below.refl _ _); clear hT5; have hT5 := conf_cells HC5.out (Below.refl _ _); clear HPT)
    | ((with_reducible refine guard_list ?_); refine held_st 42 _ _ rfl ?_; refine st_row rfl _ _ _ rfl _ (vals [x0, x1, x2, x3, x4, x5, x6, x7, x8, x9, x10, x11, x12, x13, x14, x15]) rfl rfl _ _ (heap_alloc_new w7 _) 16 tDrop rfl rfl (vals_one _) ?_; rw [World.setRow_alloc_new]; have hb := (Below.refl w7.heap.size w7).alloc (Nat.le_refl _) (.cells (vals [x0, x1, x2, x3, x4, x5, x6, x7, x8, x9, x10, x11, x12, x13, x14, x15]) 42); have HC15 := Lib.hid (heap_alloc_new w7 (.cells (vals [x0, x1, x2, x3, x4, x5, x6, x7, x8, x9, x10, x11, x12, x13, x14, x15]) 42)); replace HROW := Lib.hid (row_call hb HROW.out); replace HC5 := Lib.hid (row_call hb HC5.out); replace BI5 := Lib.hid (BI5.out.keep hb); replace BI7 := Lib.hid (BI7.out.keep hb); replace HB := Lib.hid (below_call hb HB.out); clear hb; clear hT; have hT := conf_cells HROW.out (Below.refl _ _); clear hT5; have hT5 := conf_cells HC5.out (Below.refl _ _); clear S15)
    | ((with_reducible refine guard_list ?_); refine held_load 42 _ rfl ?_; refine wpl_ld_at rfl _ _ rfl ⟨w7.heap.size, 0, none⟩ rfl (vals [x0, x1, x2, x3, x4, x5, x6, x7, x8, x9, x10, x11, x12, x13, x14, x15]) 16 tDrop rfl (row_part (o := 0) HC15.out (fun j v hv => by rwa [Nat.zero_add])) ?_)
    | ((with_reducible refine guard_list ?_); refine held_load 42 _ rfl ?_; refine wpl_ld_at rfl _ _ rfl ⟨w.heap.size, 6, none⟩ rfl (vals [x0, x1, x2, x3, x4, x5, x6, x7, x8, x9, x10, x11, x12, x13, x14, x15]) 16 tDrop rfl (HDD.out _ _ HROW.out) ?_)
    | ((with_reducible refine guard_list ?_); refine wpl_bin .neq 42 _ _ _ _ _ (.bool false) rfl rfl rfl rfl (neq_drop [x0, x1, x2, x3, x4, x5, x6, x7, x8, x9, x10, x11, x12, x13, x14, x15] rfl _) ?_)
    | (go_at_call 24; refine (eq_own2 (l := m1) HL1.out BI7.out BI5.out (by omega)).mono ?_; rintro e wq75 ⟨_, rfl, rfl, hb⟩; replace HROW := Lib.hid (row_call hb HROW.out); replace HC5 := Lib.hid (row_call hb HC5.out); replace BI5 := Lib.hid (BI5.out.keep hb); replace HB := Lib.hid (below_call hb HB.out); clear hb; clear hT; have hT := conf_cells HROW.out (Below.refl _ _); clear hT5; have hT5 := conf_cells HC5.out (Below.refl _ _))
  cases y with
  | true =>
    have ht := HT1.out
    rw [if_pos rfl] at ht
    clear HT1
    subst ht
    go_wp2_with first
      | (go_at_call 25; refine (HTR.out _ p5 c5 BI5.out HP5.out).mono ?_; rintro e w8 ⟨hb, v8, rfl, hv8⟩; obtain ⟨p8, c8, rfl, hi8, hp8, _, hl8, _⟩ := hv8.open; rw [HLR.out]; rw [HLR.out] at hl8; have BI8 := Lib.hid hi8; have HP8 := Lib.hid hp8; have HCP8 := Lib.hid hl8; clear hi8 hp8 hl8 hv8; replace HROW := Lib.hid (row_call hb HROW.out); replace HC5 := Lib.hid (row_call hb HC5.out); replace BI5 := Lib.hid (BI5.out.keep hb); replace HB := Lib.hid (below_call hb HB.out); clear hb; clear hT; have hT := conf_cells HROW.out (Below.refl _ _); clear hT5; have hT5 := conf_cells HC5.out (Below.refl _ _); clear HTR)
      | (go_at_call 26; refine (HPR.out _ p8 c8 BI8.out HCP8.out).mono ?_; rintro e w9 ⟨hb, v9, rfl, hv9⟩; obtain ⟨p9, c9, rfl, hi9, hp9, _, hl9, _⟩ := hv9.open; rw [HLT.out]; have BI9 := Lib.hid hi9; have HP9 := Lib.hid hp9; have HCP9 := Lib.hid hl9; clear hi9 hp9 hl9 hv9; replace HROW := Lib.hid (row_call hb HROW.out); replace HC5 := Lib.hid (row_call hb HC5.out); replace BI5 := Lib.hid (BI5.out.keep hb); replace HB := Lib.hid (below_call hb HB.out); clear hb; clear hT; have hT := conf_cells HROW.out (Below.refl _ _); clear hT5; have hT5 := conf_cells HC5.out (Below.refl _ _); clear HPR)
      | (go_at_call 24; refine ((fun (_ : True) => eq_own2 HLT.out BI9.out BI5.out (by omega)) TF).mono ?_; rintro e wq9 ⟨_, rfl, rfl, hb⟩; replace HROW := Lib.hid (row_call hb HROW.out); replace HC5 := Lib.hid (row_call hb HC5.out); replace BI5 := Lib.hid (BI5.out.keep hb); replace HB := Lib.hid (below_call hb HB.out); clear hb; clear hT; have hT := conf_cells HROW.out (Below.refl _ _); clear hT5; have hT5 := conf_cells HC5.out (Below.refl _ _); clear TF)
      | (go_at_call 11; refine (HS2.out _ HB.out).mono ?_; rintro e w10 ⟨hb, v10, rfl, hv10⟩; obtain ⟨p10, c10, rfl, hi10, hp10, _, hl10, _⟩ := hv10.open; rw [HL2.out]; have BI10 := Lib.hid hi10; have HP10 := Lib.hid hp10; have HCP10 := Lib.hid hl10; clear hi10 hp10 hl10 hv10; replace HROW := Lib.hid (row_call hb HROW.out); replace HC5 := Lib.hid (row_call hb HC5.out); replace HB := Lib.hid (below_call hb HB.out); clear hb; clear hT; have hT := conf_cells HROW.out (Below.refl _ _); clear hT5; have hT5 := conf_cells HC5.out (Below.refl _ _); clear HS2)
      | (go_at_call 20; refine ((fun (_ : True) => RequestSize_ev HM2.out _) TD).mono ?_; rintro e wr3 ⟨_, rfl, rfl, hb⟩; replace HROW := Lib.hid (row_call hb HROW.out); replace HC5 := Lib.hid (row_call hb HC5.out); replace BI10 := Lib.hid (BI10.out.keep hb); replace HB := Lib.hid (below_call hb HB.out); clear hb; clear hT; have hT := conf_cells HROW.out (Below.refl _ _); clear hT5; have hT5 := conf_cells HC5.out (Below.refl _ _); clear TD)
      | (go_at_call 21; refine ((fun (_ : True) => ReplySize_ev HM2.out _) TE).mono ?_; rintro e wr4 ⟨_, rfl, rfl, hb⟩; replace HROW := Lib.hid (row_call hb HROW.out); replace HC5 := Lib.hid (row_call hb HC5.out); replace BI10 := Lib.hid (BI10.out.keep hb); replace HB := Lib.hid (below_call hb HB.out); clear hb; clear hT; have hT := conf_cells HROW.out (Below.refl _ _); clear hT5; have hT5 := conf_cells HC5.out (Below.refl _ _); clear TE)
    by_cases hk : 0 ≤ k ∧ k < n2
    · have HK := Lib.hid hk
      have hk0 : ¬ k < 0 := by omega
      have hk1 : ¬ n2 ≤ k := by omega
      have HDY := Lib.hid (show ∀ w' p c, BytesIn w' p m2 → (p = none → c = 0) → Below w.heap.size w w' → Calls Tryd.prog 27 #[.agg #[.int .i64 n0, .int .i64 N1, .int .i64 n2, .int .i64 n3, .int .i64 n4, .int .i64 n5], .int .i64 k, .slice p 88 c] w' (Ans w' (le4 k ++ m2) 0) from fun w' p c h1 h2 h3 => by
        have h4 := HDR.out w' p c h1 h2 h3
        rwa [dialQ, if_pos HG.out, if_pos HK.out, if_pos HL2.out] at h4)
      have HL92 := Lib.hid (show (le4 k ++ m2).length = 92 by rw [List.length_append, le4_len, HL2.out])
      clear hk HDR
      go_wp2_with first
        | (go_at_call 27; refine (HDY.out _ p10 c10 BI10.out HP10.out HB.out).mono ?_; rintro e w11 ⟨hb, v11, rfl, hv11⟩; obtain ⟨p11, c11, rfl, hi11, hp11, _, hl11, _⟩ := hv11.open; rw [HL92.out]; have BI11 := Lib.hid hi11; have HP11 := Lib.hid hp11; have HCP11 := Lib.hid hl11; clear hi11 hp11 hl11 hv11; replace HROW := Lib.hid (row_call hb HROW.out); replace HC5 := Lib.hid (row_call hb HC5.out); replace BI10 := Lib.hid (BI10.out.keep hb); replace HB := Lib.hid (below_call hb HB.out); clear hb; clear hT; have hT := conf_cells HROW.out (Below.refl _ _); clear hT5; have hT5 := conf_cells HC5.out (Below.refl _ _); clear HDY)
        | (go_at_call 28; refine (HPD.out HK.out _ p11 c11 BI11.out).mono ?_; rintro e w12 ⟨hb, v12, rfl, hv12⟩; obtain ⟨p12, c12, rfl, hi12, hp12, _, hl12, _⟩ := hv12.open; rw [HL2.out]; have BI12 := Lib.hid hi12; have HP12 := Lib.hid hp12; have HCP12 := Lib.hid hl12; clear hi12 hp12 hl12 hv12; replace HROW := Lib.hid (row_call hb HROW.out); replace HC5 := Lib.hid (row_call hb HC5.out); replace BI10 := Lib.hid (BI10.out.keep hb); replace HB := Lib.hid (below_call hb HB.out); clear hb; clear hT; have hT := conf_cells HROW.out (Below.refl _ _); clear hT5; have hT5 := conf_cells HC5.out (Below.refl _ _); clear HPD)
        | (go_at_call 24; refine ((fun (_ : True) => eq_own2 HL2.out BI12.out BI10.out (by omega)) TG).mono ?_; rintro e wq12 ⟨_, rfl, rfl, hb⟩; replace HROW := Lib.hid (row_call hb HROW.out); replace HC5 := Lib.hid (row_call hb HC5.out); replace HB := Lib.hid (below_call hb HB.out); clear hb; clear hT; have hT := conf_cells HROW.out (Below.refl _ _); clear hT5; have hT5 := conf_cells HC5.out (Below.refl _ _); clear TG)
        | (go_at_call 10; refine (ack_any _).mono ?_; rintro e w13 ⟨hb, v13, rfl, hv13⟩; obtain ⟨p13, c13, rfl, hi13, _⟩ := hv13.open; rw [show ackL.length = 16 from rfl]; clear hi13 hv13; replace HROW := Lib.hid (row_call hb HROW.out); replace HC5 := Lib.hid (row_call hb HC5.out); replace HB := Lib.hid (below_call hb HB.out); clear hb; clear hT; have hT := conf_cells HROW.out (Below.refl _ _); clear hT5; have hT5 := conf_cells HC5.out (Below.refl _ _))
      exact ⟨rfl, .bool true, by kernel_rfl, rfl, HB.out⟩
    · have HDN := Lib.hid (show ∀ w' p c, BytesIn w' p m2 → (p = none → c = 0) → Below w.heap.size w w' → Calls Tryd.prog 27 #[.agg #[.int .i64 n0, .int .i64 N1, .int .i64 n2, .int .i64 n3, .int .i64 n4, .int .i64 n5], .int .i64 k, .slice p 88 c] w' (Ans w' [] 201) from fun w' p c h1 h2 h3 => by
        have h4 := HDR.out w' p c h1 h2 h3
        rwa [dialQ, if_pos HG.out, if_neg hk] at h4)
      clear HDR HPD
      by_cases hk0 : k < 0
      · clear hk
        go_wp2_with first
          | (go_at_call 27; refine (HDN.out _ p10 c10 BI10.out HP10.out HB.out).mono ?_; rintro e w11 ⟨hb, v11, rfl, hv11⟩; obtain ⟨p11, c11, rfl, hi11, hp11, _, hl11, _⟩ := hv11.open; rw [List.length_nil]; have BI11 := Lib.hid hi11; have HP11 := Lib.hid hp11; have HCP11 := Lib.hid hl11; clear hi11 hp11 hl11 hv11; replace HROW := Lib.hid (row_call hb HROW.out); replace HC5 := Lib.hid (row_call hb HC5.out); replace HB := Lib.hid (below_call hb HB.out); clear hb; clear hT; have hT := conf_cells HROW.out (Below.refl _ _); clear hT5; have hT5 := conf_cells HC5.out (Below.refl _ _); clear HDN)
        exact ⟨rfl, .bool true, by kernel_rfl, rfl, HB.out⟩
      · have hk1 : n2 ≤ k := by omega
        clear hk
        go_wp2_with first
          | (go_at_call 27; refine (HDN.out _ p10 c10 BI10.out HP10.out HB.out).mono ?_; rintro e w11 ⟨hb, v11, rfl, hv11⟩; obtain ⟨p11, c11, rfl, hi11, hp11, _, hl11, _⟩ := hv11.open; rw [List.length_nil]; have BI11 := Lib.hid hi11; have HP11 := Lib.hid hp11; have HCP11 := Lib.hid hl11; clear hi11 hp11 hl11 hv11; replace HROW := Lib.hid (row_call hb HROW.out); replace HC5 := Lib.hid (row_call hb HC5.out); replace HB := Lib.hid (below_call hb HB.out); clear hb; clear hT; have hT := conf_cells HROW.out (Below.refl _ _); clear hT5; have hT5 := conf_cells HC5.out (Below.refl _ _); clear HDN)
        exact ⟨rfl, .bool true, by kernel_rfl, rfl, HB.out⟩
  | false =>
    have ht := HT1.out
    rw [if_neg (by decide)] at ht
    have HTZ := Lib.hid ht
    clear HT1 ht
    go_wp2_with first
      | (go_at_call 25; refine (HTR.out _ p5 c5 BI5.out HP5.out).mono ?_; rintro e w8 ⟨hb, v8, rfl, hv8⟩; obtain ⟨p8, c8, rfl, hi8, hp8, _, hl8, _⟩ := hv8.open; rw [HLR.out]; rw [HLR.out] at hl8; have BI8 := Lib.hid hi8; have HP8 := Lib.hid hp8; have HCP8 := Lib.hid hl8; clear hi8 hp8 hl8 hv8; replace HROW := Lib.hid (row_call hb HROW.out); replace HC5 := Lib.hid (row_call hb HC5.out); replace BI5 := Lib.hid (BI5.out.keep hb); replace HB := Lib.hid (below_call hb HB.out); clear hb; clear hT; have hT := conf_cells HROW.out (Below.refl _ _); clear hT5; have hT5 := conf_cells HC5.out (Below.refl _ _); clear HTR)
      | (go_at_call 26; refine (HPR.out _ p8 c8 BI8.out HCP8.out).mono ?_; rintro e w9 ⟨hb, v9, rfl, hv9⟩; obtain ⟨p9, c9, rfl, hi9, hp9, _, hl9, _⟩ := hv9.open; rw [HLT.out]; have BI9 := Lib.hid hi9; have HP9 := Lib.hid hp9; have HCP9 := Lib.hid hl9; clear hi9 hp9 hl9 hv9; replace HROW := Lib.hid (row_call hb HROW.out); replace HC5 := Lib.hid (row_call hb HC5.out); replace BI5 := Lib.hid (BI5.out.keep hb); replace HB := Lib.hid (below_call hb HB.out); clear hb; clear hT; have hT := conf_cells HROW.out (Below.refl _ _); clear hT5; have hT5 := conf_cells HC5.out (Below.refl _ _); clear HPR)
      | (go_at_call 24; refine (eq_own2 HLT.out (BI9.out.keep ((Below.refl _ _).alloc (Nat.le_refl _) _)) (BytesIn.vals 0 (heap_alloc_new _ _) (by rw [HTZ.out]; simp)) (by omega)).mono ?_; rintro e wz ⟨_, rfl, rfl, hb⟩; replace hb := below_call hb ((Below.refl _ _).alloc (Nat.le_refl _) _); replace HROW := Lib.hid (row_call hb HROW.out); replace HC5 := Lib.hid (row_call hb HC5.out); replace BI5 := Lib.hid (BI5.out.keep hb); replace HB := Lib.hid (below_call hb HB.out); clear hb; clear hT; have hT := conf_cells HROW.out (Below.refl _ _); clear hT5; have hT5 := conf_cells HC5.out (Below.refl _ _); clear TF)
      | (go_at_call 11; refine (HS2.out _ HB.out).mono ?_; rintro e w10 ⟨hb, v10, rfl, hv10⟩; obtain ⟨p10, c10, rfl, hi10, hp10, _, hl10, _⟩ := hv10.open; rw [HL2.out]; have BI10 := Lib.hid hi10; have HP10 := Lib.hid hp10; have HCP10 := Lib.hid hl10; clear hi10 hp10 hl10 hv10; replace HROW := Lib.hid (row_call hb HROW.out); replace HC5 := Lib.hid (row_call hb HC5.out); replace HB := Lib.hid (below_call hb HB.out); clear hb; clear hT; have hT := conf_cells HROW.out (Below.refl _ _); clear hT5; have hT5 := conf_cells HC5.out (Below.refl _ _); clear HS2)
      | (go_at_call 20; refine ((fun (_ : True) => RequestSize_ev HM2.out _) TD).mono ?_; rintro e wr3 ⟨_, rfl, rfl, hb⟩; replace HROW := Lib.hid (row_call hb HROW.out); replace HC5 := Lib.hid (row_call hb HC5.out); replace BI10 := Lib.hid (BI10.out.keep hb); replace HB := Lib.hid (below_call hb HB.out); clear hb; clear hT; have hT := conf_cells HROW.out (Below.refl _ _); clear hT5; have hT5 := conf_cells HC5.out (Below.refl _ _); clear TD)
      | (go_at_call 21; refine ((fun (_ : True) => ReplySize_ev HM2.out _) TE).mono ?_; rintro e wr4 ⟨_, rfl, rfl, hb⟩; replace HROW := Lib.hid (row_call hb HROW.out); replace HC5 := Lib.hid (row_call hb HC5.out); replace BI10 := Lib.hid (BI10.out.keep hb); replace HB := Lib.hid (below_call hb HB.out); clear hb; clear hT; have hT := conf_cells HROW.out (Below.refl _ _); clear hT5; have hT5 := conf_cells HC5.out (Below.refl _ _); clear TE)
    by_cases hk : 0 ≤ k ∧ k < n2
    · have HK := Lib.hid hk
      have hk0 : ¬ k < 0 := by omega
      have hk1 : ¬ n2 ≤ k := by omega
      have HDY := Lib.hid (show ∀ w' p c, BytesIn w' p m2 → (p = none → c = 0) → Below w.heap.size w w' → Calls Tryd.prog 27 #[.agg #[.int .i64 n0, .int .i64 N1, .int .i64 n2, .int .i64 n3, .int .i64 n4, .int .i64 n5], .int .i64 k, .slice p 88 c] w' (Ans w' (le4 k ++ m2) 0) from fun w' p c h1 h2 h3 => by
        have h4 := HDR.out w' p c h1 h2 h3
        rwa [dialQ, if_pos HG.out, if_pos HK.out, if_pos HL2.out] at h4)
      have HL92 := Lib.hid (show (le4 k ++ m2).length = 92 by rw [List.length_append, le4_len, HL2.out])
      clear hk HDR
      go_wp2_with first
        | (go_at_call 27; refine (HDY.out _ p10 c10 BI10.out HP10.out HB.out).mono ?_; rintro e w11 ⟨hb, v11, rfl, hv11⟩; obtain ⟨p11, c11, rfl, hi11, hp11, _, hl11, _⟩ := hv11.open; rw [HL92.out]; have BI11 := Lib.hid hi11; have HP11 := Lib.hid hp11; have HCP11 := Lib.hid hl11; clear hi11 hp11 hl11 hv11; replace HROW := Lib.hid (row_call hb HROW.out); replace HC5 := Lib.hid (row_call hb HC5.out); replace BI10 := Lib.hid (BI10.out.keep hb); replace HB := Lib.hid (below_call hb HB.out); clear hb; clear hT; have hT := conf_cells HROW.out (Below.refl _ _); clear hT5; have hT5 := conf_cells HC5.out (Below.refl _ _); clear HDY)
        | (go_at_call 28; refine (HPD.out HK.out _ p11 c11 BI11.out).mono ?_; rintro e w12 ⟨hb, v12, rfl, hv12⟩; obtain ⟨p12, c12, rfl, hi12, hp12, _, hl12, _⟩ := hv12.open; rw [HL2.out]; have BI12 := Lib.hid hi12; have HP12 := Lib.hid hp12; have HCP12 := Lib.hid hl12; clear hi12 hp12 hl12 hv12; replace HROW := Lib.hid (row_call hb HROW.out); replace HC5 := Lib.hid (row_call hb HC5.out); replace BI10 := Lib.hid (BI10.out.keep hb); replace HB := Lib.hid (below_call hb HB.out); clear hb; clear hT; have hT := conf_cells HROW.out (Below.refl _ _); clear hT5; have hT5 := conf_cells HC5.out (Below.refl _ _); clear HPD)
        | (go_at_call 24; refine ((fun (_ : True) => eq_own2 HL2.out BI12.out BI10.out (by omega)) TG).mono ?_; rintro e wq12 ⟨_, rfl, rfl, hb⟩; replace HROW := Lib.hid (row_call hb HROW.out); replace HC5 := Lib.hid (row_call hb HC5.out); replace HB := Lib.hid (below_call hb HB.out); clear hb; clear hT; have hT := conf_cells HROW.out (Below.refl _ _); clear hT5; have hT5 := conf_cells HC5.out (Below.refl _ _); clear TG)
        | (go_at_call 10; refine (ack_any _).mono ?_; rintro e w13 ⟨hb, v13, rfl, hv13⟩; obtain ⟨p13, c13, rfl, hi13, _⟩ := hv13.open; rw [show ackL.length = 16 from rfl]; clear hi13 hv13; replace HROW := Lib.hid (row_call hb HROW.out); replace HC5 := Lib.hid (row_call hb HC5.out); replace HB := Lib.hid (below_call hb HB.out); clear hb; clear hT; have hT := conf_cells HROW.out (Below.refl _ _); clear hT5; have hT5 := conf_cells HC5.out (Below.refl _ _))
      exact ⟨rfl, .bool true, by kernel_rfl, rfl, HB.out⟩
    · have HDN := Lib.hid (show ∀ w' p c, BytesIn w' p m2 → (p = none → c = 0) → Below w.heap.size w w' → Calls Tryd.prog 27 #[.agg #[.int .i64 n0, .int .i64 N1, .int .i64 n2, .int .i64 n3, .int .i64 n4, .int .i64 n5], .int .i64 k, .slice p 88 c] w' (Ans w' [] 201) from fun w' p c h1 h2 h3 => by
        have h4 := HDR.out w' p c h1 h2 h3
        rwa [dialQ, if_pos HG.out, if_neg hk] at h4)
      clear HDR HPD
      by_cases hk0 : k < 0
      · clear hk
        go_wp2_with first
          | (go_at_call 27; refine (HDN.out _ p10 c10 BI10.out HP10.out HB.out).mono ?_; rintro e w11 ⟨hb, v11, rfl, hv11⟩; obtain ⟨p11, c11, rfl, hi11, hp11, _, hl11, _⟩ := hv11.open; rw [List.length_nil]; have BI11 := Lib.hid hi11; have HP11 := Lib.hid hp11; have HCP11 := Lib.hid hl11; clear hi11 hp11 hl11 hv11; replace HROW := Lib.hid (row_call hb HROW.out); replace HC5 := Lib.hid (row_call hb HC5.out); replace HB := Lib.hid (below_call hb HB.out); clear hb; clear hT; have hT := conf_cells HROW.out (Below.refl _ _); clear hT5; have hT5 := conf_cells HC5.out (Below.refl _ _); clear HDN)
        exact ⟨rfl, .bool true, by kernel_rfl, rfl, HB.out⟩
      · have hk1 : n2 ≤ k := by omega
        clear hk
        go_wp2_with first
          | (go_at_call 27; refine (HDN.out _ p10 c10 BI10.out HP10.out HB.out).mono ?_; rintro e w11 ⟨hb, v11, rfl, hv11⟩; obtain ⟨p11, c11, rfl, hi11, hp11, _, hl11, _⟩ := hv11.open; rw [List.length_nil]; have BI11 := Lib.hid hi11; have HP11 := Lib.hid hp11; have HCP11 := Lib.hid hl11; clear hi11 hp11 hl11 hv11; replace HROW := Lib.hid (row_call hb HROW.out); replace HC5 := Lib.hid (row_call hb HC5.out); replace HB := Lib.hid (below_call hb HB.out); clear hb; clear hT; have hT := conf_cells HROW.out (Below.refl _ _); clear hT5; have hT5 := conf_cells HC5.out (Below.refl _ _); clear HDN)
        exact ⟨rfl, .bool true, by kernel_rfl, rfl, HB.out⟩
end Go.Proofs.YtmochmpamgfboabDoor
