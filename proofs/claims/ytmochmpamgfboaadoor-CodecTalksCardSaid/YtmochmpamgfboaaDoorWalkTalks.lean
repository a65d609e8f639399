/- The walk of CodecTalks. -/
import Derived.Test.YtmochmpamgfboaaDoorTwi
import Derived.Test.YtmochmpamgfboaaDoorTalkE
namespace Go.Proofs.YtmochmpamgfboaaDoor
open Go.RowKit
theorem apart_of {w w' : World} {B : Nat} {v v' : Value} {l l' : List Int} (h1 : Bts w B v l) (h2 : Bts w' w.heap.size v' l') : v.ownBlock = none ∨ v.ownBlock ≠ v'.ownBlock := by
  cases e : v.ownBlock with
  | none => exact .inl rfl
  | some x =>
    refine .inr fun e2 => ?_
    have h3 := (h1.lt x e).2
    have h4 := (h2.lt x e2.symm).1
    omega
theorem talkQ_short {g : Bool} {n1 : Int} {d m l : List Int} {k : Int} (hg : g = true → n1 ≤ 512) (hd : d.length = 16) (h : talkQ g n1 d m = (l, k)) : l.length ≤ 1099511627776 := by
  unfold talkQ at h
  split at h
  · rename_i h1
    have := hg h1
    split at h <;> (injection h with h2 h3; subst h2; simp; try omega)
  · injection h with h2 h3; subst h2; simp
theorem replyQ_short {g : Bool} {n1 : Int} {y : Bool} {m l : List Int} {k : Int} (hg : g = true → n1 ≤ 512) (h : replyQ g n1 y m = (l, k)) : l.length ≤ 1099511627776 := by
  unfold replyQ at h
  split at h
  · rename_i h1
    have := hg h1
    split at h
    · injection h with h2 h3
      subst h2
      split <;> simp <;> omega
    · injection h with h2 h3; subst h2; simp
  · injection h with h2 h3; subst h2; simp
theorem talkP_short {g : Bool} {n1 : Int} {b d l : List Int} {k : Int} (hg : g = true → 32 ≤ n1 ∧ n1 ≤ 512) (h : talkP g n1 b = (d, l, k)) : l.length ≤ 1099511627776 ∧ d.length = 16 := by
  unfold talkP at h
  split at h
  · rename_i h1
    have := hg h1
    split at h
    · rename_i h4
      injection h with h2 h3
      injection h3 with h3 h5
      subst h2; subst h3
      simp only [List.length_take, List.length_drop]
      omega
    · injection h with h2 h3; injection h3 with h3 h5; subst h2; subst h3; simp [z16]
  · injection h with h2 h3; injection h3 with h3 h5; subst h2; subst h3; simp [z16]
theorem replyP_short {g : Bool} {n1 : Int} {b l : List Int} {y : Bool} {k : Int} (hg : g = true → 32 ≤ n1 ∧ n1 ≤ 512) (h : replyP g n1 b = (y, l, k)) : l.length ≤ 1099511627776 := by
  unfold replyP at h
  split at h
  · rename_i h1
    have := hg h1
    split at h
    · rename_i h4
      split at h
      · injection h with h2 h3; injection h3 with h3 h5; subst h3; simp only [List.length_drop]; omega
      · split at h <;> (injection h with h2 h3; injection h3 with h3 h5; subst h3; simp; try omega)
    · injection h with h2 h3; injection h3 with h3 h5; subst h3; simp
  · injection h with h2 h3; injection h3 with h3 h5; subst h3; simp
theorem wpList_ld_at {o : Oper} {a : Act} {w : World} {Q : Exit → Act → World → Prop} {ops : Array Oper} {rest : List Oper} {P : Program} (hgd : o.guard = none) (ty : TypeId) (x : Operand) (ho : o.op = .load ty x) (ad : Addr) (hx : a.eval x = .pointer (some ad)) (cs : Array Value) (n : Nat) (hT : RowT P ty n) (hn : cs.size = n) (hc : CellsAt w ad cs)
    (h : wpList P ops Q rest (a.put o.dst (.agg cs)) w) : wpList P ops Q (o :: rest) a w := by
  refine wpList_step fun K hK => if_always hgd (wp_val (.agg cs) ?_ (hK _ _ h))
  unfold execOp; rw [ho]
  show ((do let z ← Instr.loadAt ty (a.eval x); pure (Next.value z)) : Sem Next).run P w = _
  rw [hx, Sem.run_bind, run_load_at hT hn hc]
  rfl
theorem row_part {w : World} {g o : Nat} {cs ds : Array Value} {t : TypeId} (h : w.heap[g]? = some (.cells cs t (0, 0))) (hs : ∀ j v, ds[j]? = some v → cs[o + j]? = some v) : CellsAt w ⟨g, o, none⟩ ds := fun j v hv => by
  have e : (⟨g, o, none⟩ : Addr).add j = ⟨g, o + j, none⟩ := by unfold Addr.add; split <;> simp_all
  rw [e, cell_of_row w g _ cs t (0, 0) h]
  exact hs j v hv
theorem wpList_bin {o : Oper} {a : Act} {w : World} {Q : Exit → Act → World → Prop} {ops : Array Oper} {rest : List Oper} {P : Program} (bo : BinOp) (ty ty' : TypeId) (x y : Operand) (u v r : Value) (hgd : o.guard = none) (ho : o.op = .binOp bo ty x y ty') (hx : a.eval x = u) (hy : a.eval y = v)
    (hrun : (do eqGuard bo ty x y u v; binOp bo ty u v : Sem Value).run P w = .ok r w) (h : wpList P ops Q rest (a.put o.dst r) w) : wpList P ops Q (o :: rest) a w := by
  refine wpList_step fun K hK => if_always hgd (wp_val r ?_ (hK _ _ h))
  subst hx; subst hy
  unfold execOp; rw [ho]
  show ((do let z ← (do eqGuard bo ty x y (a.eval x) (a.eval y); binOp bo ty (a.eval x) (a.eval y)); pure (Next.value z)) : Sem Next).run P w = _
  rw [Sem.run_bind, hrun]
  rfl
set_option maxRecDepth 100000 in
theorem neq_drop {p q : Operand} (xs : List Int) (hx : xs.length = 16) (w : World) :
    (do eqGuard .neq 25 p q (.agg (vals xs)) (.agg (vals xs)); binOp .neq 25 (.agg (vals xs)) (.agg (vals xs)) : Sem Value).run Tryd.prog w = .ok (.bool false) w := by
  have h1 : (eqGuard .neq 25 p q (.agg (vals xs)) (.agg (vals xs))).run Tryd.prog w = .ok () w := by kernel_rfl
  have h2 := run_neq_vals (P := Tryd.prog) w .u8 25 5 16 Tryd.underlying25 Tryd.underlying5 (fun w => by kernel_rfl) xs xs hx hx
  rw [decide_eq_true rfl] at h2
  rw [Sem.run_bind, h1]
  exact h2
set_option maxHeartbeats 16000000 in
set_option maxRecDepth 100000 in
theorem codecTalks_walk (n0 n1 n2 n3 n4 n5 : Int) (x0 x1 x2 x3 x4 x5 x6 x7 x8 x9 x10 x11 x12 x13 x14 x15 : Int) (y : Bool) (pm qb : Option Addr) (m B : List Int) (nm cm nb cb : Nat) (w : World) (lm : m.length = nm) (im : BytesIn w pm m) (hm : pm = none → cm = 0) (zm : nm ≤ 140737488355328)
    (lB : B.length = nb) (bB : Byt B) (iB : BytesIn w qb B) (cB : nb ≤ cb) (zB : nb ≤ 140737488355328) :
    Calls Tryd.prog 3 #[.agg #[.int .i64 n0, .int .i64 n1, .int .i64 n2, .int .i64 n3, .int .i64 n4, .int .i64 n5, .int .u8 x0, .int .u8 x1, .int .u8 x2, .int .u8 x3, .int .u8 x4, .int .u8 x5, .int .u8 x6, .int .u8 x7, .int .u8 x8, .int .u8 x9, .int .u8 x10, .int .u8 x11, .int .u8 x12, .int .u8 x13, .int .u8 x14, .int .u8 x15, .bool y, .slice pm nm cm, .slice qb nb cb]] w (fun e w' => e = .returned (.bool true) ∧ Below w.heap.size w w') := by
  obtain ⟨l1, k1, e1⟩ : ∃ l k, talkQ (good n0 n1 n2 n3 n4 n5) n1 [x0, x1, x2, x3, x4, x5, x6, x7, x8, x9, x10, x11, x12, x13, x14, x15] m = (l, k) := ⟨_, _, rfl⟩
  obtain ⟨l2, k2, e2⟩ : ∃ l k, replyQ (good n0 n1 n2 n3 n4 n5) n1 y m = (l, k) := ⟨_, _, rfl⟩
  obtain ⟨D3, l3, k3, e3⟩ : ∃ d l k, talkP (good n0 n1 n2 n3 n4 n5) n1 B = (d, l, k) := ⟨_, _, _, rfl⟩
  obtain ⟨y4, l4, k4, e4⟩ : ∃ y l k, replyP (good n0 n1 n2 n3 n4 n5) n1 B = (y, l, k) := ⟨_, _, _, rfl⟩
  have hgo : (good n0 n1 n2 n3 n4 n5) = true → 32 ≤ n1 ∧ n1 ≤ 512 := fun h => good_msg h
  have HLl1 := Lib.hid (talkQ_short (fun h => (hgo h).2) rfl e1)
  have HLl2 := Lib.hid (replyQ_short (fun h => (hgo h).2) e2)
  have HLl3 := Lib.hid (talkP_short hgo e3).1
  have HD3 := Lib.hid (show (vals D3).size = 16 by rw [vals_size]; exact (talkP_short hgo e3).2)
  have HD3L := Lib.hid (talkP_short hgo e3).2
  have HLl4 := Lib.hid (replyP_short hgo e4)
  have HMN := Lib.hid lm
  have HBN := Lib.hid lB
  have HMI := Lib.hid (show ∀ w', Below w.heap.size w w' → BytesIn w' pm m from fun w' h => im.under h (Nat.le_refl _))
  have HBI := Lib.hid (show ∀ w', Below w.heap.size w w' → BytesIn w' qb B from fun w' h => iB.under h (Nat.le_refl _))
  have sp_in : ∀ (w' : World) (g : Nat) (t : TypeId) (l : List Int), w'.heap[g]? = some (.cells (vals (spareL l)) t (0, 0)) → BytesIn w' (some ⟨g, 0, none⟩) l := fun w' g t l h => BytesIn.vals 0 h (by rw [List.drop_zero]; exact spareL_take l)
  have HS1 := Lib.hid (show ∀ w', Below w.heap.size w w' → Calls Tryd.prog 8 #[.slice pm nm cm] w' (NewBytes w' (spareL m) nm) from fun w' h => spare_any pm m nm cm w' lm (HMI.out _ h) zm)
  have HS2 := Lib.hid (show ∀ w', Below w.heap.size w w' → Calls Tryd.prog 8 #[.slice qb nb cb] w' (NewBytes w' (spareL B) nb) from fun w' h => spare_any qb B nb cb w' lB (HBI.out _ h) zB)
  have H1a := Lib.hid (show ∀ (w' : World) (g : Nat) (t : TypeId), w'.heap[g]? = some (.cells (vals (spareL m)) t (0, 0)) → Calls Tryd.prog 9 #[.agg #[.int .i64 n0, .int .i64 n1, .int .i64 n2, .int .i64 n3, .int .i64 n4, .int .i64 n5], .agg #[.int .u8 x0, .int .u8 x1, .int .u8 x2, .int .u8 x3, .int .u8 x4, .int .u8 x5, .int .u8 x6, .int .u8 x7, .int .u8 x8, .int .u8 x9, .int .u8 x10, .int .u8 x11, .int .u8 x12, .int .u8 x13, .int .u8 x14, .int .u8 x15], .slice (some ⟨g, 0, none⟩) nm (nm + 80)] w' (Ans w' l1 k1) from fun w' g t h => by
    have h1 := talkRequest_any n0 n1 n2 n3 n4 n5 [x0, x1, x2, x3, x4, x5, x6, x7, x8, x9, x10, x11, x12, x13, x14, x15] rfl (some ⟨g, 0, none⟩) nm (nm + 80) m w' lm (sp_in w' g t m h) (fun h => by cases h)
    rw [e1] at h1
    exact h1)
  have H1b := H1a
  have H1R := Lib.hid (show ∀ w', Below w.heap.size w w' → Calls Tryd.prog 10 #[.agg #[.int .i64 n0, .int .i64 n1, .int .i64 n2, .int .i64 n3, .int .i64 n4, .int .i64 n5], .agg #[.int .u8 x0, .int .u8 x1, .int .u8 x2, .int .u8 x3, .int .u8 x4, .int .u8 x5, .int .u8 x6, .int .u8 x7, .int .u8 x8, .int .u8 x9, .int .u8 x10, .int .u8 x11, .int .u8 x12, .int .u8 x13, .int .u8 x14, .int .u8 x15], .slice pm nm cm] w' (Ans w' l1 k1) from fun w' h => by
    have h1 := talkRequestR_any n0 n1 n2 n3 n4 n5 [x0, x1, x2, x3, x4, x5, x6, x7, x8, x9, x10, x11, x12, x13, x14, x15] rfl pm nm cm m w' lm (HMI.out _ h) hm
    rw [e1] at h1
    exact h1)
  have H2a := Lib.hid (show ∀ (w' : World) (g : Nat) (t : TypeId), w'.heap[g]? = some (.cells (vals (spareL m)) t (0, 0)) → Calls Tryd.prog 12 #[.agg #[.int .i64 n0, .int .i64 n1, .int .i64 n2, .int .i64 n3, .int .i64 n4, .int .i64 n5], .bool y, .slice (some ⟨g, 0, none⟩) nm (nm + 80)] w' (Ans w' l2 k2) from fun w' g t h => by
    have h1 := talkReply_any n0 n1 n2 n3 n4 n5 y (some ⟨g, 0, none⟩) nm (nm + 80) m w' lm (sp_in w' g t m h) (fun h => by cases h)
    rw [e2] at h1
    exact h1)
  have H2b := H2a
  have H2R := Lib.hid (show ∀ w', Below w.heap.size w w' → Calls Tryd.prog 13 #[.agg #[.int .i64 n0, .int .i64 n1, .int .i64 n2, .int .i64 n3, .int .i64 n4, .int .i64 n5], .bool y, .slice pm nm cm] w' (Ans w' l2 k2) from fun w' h => by
    have h1 := talkReplyR_any n0 n1 n2 n3 n4 n5 y pm nm cm m w' lm (HMI.out _ h) hm
    rw [e2] at h1
    exact h1)
  have H3a := Lib.hid (show ∀ (w' : World) (g : Nat) (t : TypeId), w'.heap[g]? = some (.cells (vals (spareL B)) t (0, 0)) → Calls Tryd.prog 14 #[.agg #[.int .i64 n0, .int .i64 n1, .int .i64 n2, .int .i64 n3, .int .i64 n4, .int .i64 n5], .slice (some ⟨g, 0, none⟩) nb (nb + 80)] w' (AnsD w' D3 l3 k3) from fun w' g t h => by
    have h1 := parseTalk_any n0 n1 n2 n3 n4 n5 (some ⟨g, 0, none⟩) nb (nb + 80) B w' lB (sp_in w' g t B h) (by omega)
    rw [e3] at h1
    exact h1)
  have H3b := H3a
  have H3R := Lib.hid (show ∀ w', Below w.heap.size w w' → Calls Tryd.prog 15 #[.agg #[.int .i64 n0, .int .i64 n1, .int .i64 n2, .int .i64 n3, .int .i64 n4, .int .i64 n5], .slice qb nb cb] w' (AnsD w' D3 l3 k3) from fun w' h => by
    have h1 := parseTalkR_any n0 n1 n2 n3 n4 n5 qb nb cb B w' lB (HBI.out _ h) cB
    rw [e3] at h1
    exact h1)
  have H4a := Lib.hid (show ∀ (w' : World) (g : Nat) (t : TypeId), w'.heap[g]? = some (.cells (vals (spareL B)) t (0, 0)) → Calls Tryd.prog 16 #[.agg #[.int .i64 n0, .int .i64 n1, .int .i64 n2, .int .i64 n3, .int .i64 n4, .int .i64 n5], .slice (some ⟨g, 0, none⟩) nb (nb + 80)] w' (AnsB w' y4 l4 k4) from fun w' g t h => by
    have h1 := parseReply_any n0 n1 n2 n3 n4 n5 (some ⟨g, 0, none⟩) nb (nb + 80) B w' lB bB (sp_in w' g t B h) (by omega)
    rw [e4] at h1
    exact h1)
  have H4b := H4a
  have H4R := Lib.hid (show ∀ w', Below w.heap.size w w' → Calls Tryd.prog 17 #[.agg #[.int .i64 n0, .int .i64 n1, .int .i64 n2, .int .i64 n3, .int .i64 n4, .int .i64 n5], .slice qb nb cb] w' (AnsB w' y4 l4 k4) from fun w' h => by
    have h1 := parseReplyR_any n0 n1 n2 n3 n4 n5 qb nb cb B w' lB bB (HBI.out _ h) cB
    rw [e4] at h1
    exact h1)
  have HROW := Lib.hid (heap_alloc_new w (.cells #[.int .i64 n0, .int .i64 n1, .int .i64 n2, .int .i64 n3, .int .i64 n4, .int .i64 n5, .int .u8 x0, .int .u8 x1, .int .u8 x2, .int .u8 x3, .int .u8 x4, .int .u8 x5, .int .u8 x6, .int .u8 x7, .int .u8 x8, .int .u8 x9, .int .u8 x10, .int .u8 x11, .int .u8 x12, .int .u8 x13, .int .u8 x14, .int .u8 x15, .bool y, .slice pm nm cm, .slice qb nb cb] 28))
  have HB := Lib.hid ((Below.refl w.heap.size w).alloc (Nat.le_refl _) (.cells #[.int .i64 n0, .int .i64 n1, .int .i64 n2, .int .i64 n3, .int .i64 n4, .int .i64 n5, .int .u8 x0, .int .u8 x1, .int .u8 x2, .int .u8 x3, .int .u8 x4, .int .u8 x5, .int .u8 x6, .int .u8 x7, .int .u8 x8, .int .u8 x9, .int .u8 x10, .int .u8 x11, .int .u8 x12, .int .u8 x13, .int .u8 x14, .int .u8 x15, .bool y, .slice pm nm cm, .slice qb nb cb] 28))
  have hT : True := trivial
  have HSA : True := trivial
  have HSB : True := trivial
  have HDC := Lib.hid (show ∀ (w' : World) (t : TypeId), w'.heap[w.heap.size]? = some (.cells #[.int .i64 n0, .int .i64 n1, .int .i64 n2, .int .i64 n3, .int .i64 n4, .int .i64 n5, .int .u8 x0, .int .u8 x1, .int .u8 x2, .int .u8 x3, .int .u8 x4, .int .u8 x5, .int .u8 x6, .int .u8 x7, .int .u8 x8, .int .u8 x9, .int .u8 x10, .int .u8 x11, .int .u8 x12, .int .u8 x13, .int .u8 x14, .int .u8 x15, .bool y, .slice pm nm cm, .slice qb nb cb] t (0, 0)) → CellsAt w' ⟨w.heap.size, 0, none⟩ #[.int .i64 n0, .int .i64 n1, .int .i64 n2, .int .i64 n3, .int .i64 n4, .int .i64 n5] from fun w' t h => row_part h (fun j v hv => by
    rcases (show j = 0 ∨ j = 1 ∨ j = 2 ∨ j = 3 ∨ j = 4 ∨ j = 5 by have := (Array.getElem?_eq_some_iff.1 hv).1; simp at this; omega) with rfl | rfl | rfl | rfl | rfl | rfl <;> exact hv))
  have HDD := Lib.hid (show ∀ (w' : World) (t : TypeId), w'.heap[w.heap.size]? = some (.cells #[.int .i64 n0, .int .i64 n1, .int .i64 n2, .int .i64 n3, .int .i64 n4, .int .i64 n5, .int .u8 x0, .int .u8 x1, .int .u8 x2, .int .u8 x3, .int .u8 x4, .int .u8 x5, .int .u8 x6, .int .u8 x7, .int .u8 x8, .int .u8 x9, .int .u8 x10, .int .u8 x11, .int .u8 x12, .int .u8 x13, .int .u8 x14, .int .u8 x15, .bool y, .slice pm nm cm, .slice qb nb cb] t (0, 0)) → CellsAt w' ⟨w.heap.size, 6, none⟩ #[.int .u8 x0, .int .u8 x1, .int .u8 x2, .int .u8 x3, .int .u8 x4, .int .u8 x5, .int .u8 x6, .int .u8 x7, .int .u8 x8, .int .u8 x9, .int .u8 x10, .int .u8 x11, .int .u8 x12, .int .u8 x13, .int .u8 x14, .int .u8 x15] from fun w' t h => row_part h (fun j v hv => by
    rcases (show j = 0 ∨ j = 1 ∨ j = 2 ∨ j = 3 ∨ j = 4 ∨ j = 5 ∨ j = 6 ∨ j = 7 ∨ j = 8 ∨ j = 9 ∨ j = 10 ∨ j = 11 ∨ j = 12 ∨ j = 13 ∨ j = 14 ∨ j = 15 by have := (Array.getElem?_eq_some_iff.1 hv).1; simp at this; omega) with rfl | rfl | rfl | rfl | rfl | rfl | rfl | rfl | rfl | rfl | rfl | rfl | rfl | rfl | rfl | rfl <;> exact hv))
  clear e1 e2 e3 e4 hgo lm im hm lB bB iB cB sp_in
  go_enter Tryd.func3, Tryd.ntmps3
  go_wp2_with first
    | ((with_reducible refine guard_list ?_); refine held_load 23 _ rfl ?_; refine wpList_ld_at rfl _ _ rfl ⟨w.heap.size, 0, none⟩ rfl _ 6 tConf rfl (HDC.out _ _ HROW.out) ?_)
    | ((with_reducible refine guard_list ?_); refine held_load 25 _ rfl ?_; refine wpList_ld_at rfl _ _ rfl ⟨w.heap.size, 6, none⟩ rfl _ 16 tDrop rfl (HDD.out _ _ HROW.out) ?_)
    | (go_at_call 8; refine (HS1.out _ HB.out).mono ?_; rintro e b1 ⟨hb, g1, t1, rfl, hge, hrow⟩; rw [spareL_len, HMN.out]; replace HROW := Lib.hid (row_call hb HROW.out); replace HB := Lib.hid (below_call hb HB.out); clear hb; clear hT; have hT := conf_cells HROW.out (Below.refl _ _); have HSP := Lib.hid hrow; have HSP0 := Lib.hid hrow; have HROW0 := HROW; have HB0 := HB; have HBB := Lib.hid (Below.refl b1.heap.size b1); clear hrow hge HS1)
    | (go_at_call 9; refine (H1a.out _ _ _ HSP.out).mono ?_; rintro e w1 ⟨hb, v1, rfl, hv1⟩; replace hv1 := hv1.low HBB.out.size; replace HROW := Lib.hid (row_call hb HROW.out); replace HB := Lib.hid (below_call hb HB.out); replace HSP := Lib.hid (row_call hb HSP.out); replace HBB := Lib.hid (below_call hb HBB.out); clear hb; clear hT; have hT := conf_cells HROW.out (Below.refl _ _); have HV1 := Lib.hid hv1; clear hv1; clear H1a)
    | (go_at_call 9; refine (H1b.out _ _ _ HSP.out).mono ?_; rintro e w2 ⟨hb, v2, rfl, hv2⟩; have HNE := Lib.hid (apart_of HV1.out hv2); replace hv2 := hv2.low HBB.out.size; replace HROW := Lib.hid (row_call hb HROW.out); replace HB := Lib.hid (below_call hb HB.out); replace HSP := Lib.hid (row_call hb HSP.out); replace HBB := Lib.hid (below_call hb HBB.out); replace HV1 := Lib.hid (HV1.out.under hb); clear hb; clear hT; have hT := conf_cells HROW.out (Below.refl _ _); have HV2 := Lib.hid hv2; clear hv2; clear H1b)
    | (go_at_call 10; refine (H1R.out _ HB.out).mono ?_; rintro e w3 ⟨hb, v3, rfl, hv3⟩; obtain ⟨p3, c3, rfl, hi3, _⟩ := hv3.open; have HI := Lib.hid hi3; clear hi3 hv3; replace HROW := Lib.hid (row_call hb HROW.out); replace HB := Lib.hid (below_call hb HB.out); replace HSP := Lib.hid (row_call hb HSP.out); replace HBB := Lib.hid (below_call hb HBB.out); replace HV1 := Lib.hid (HV1.out.under hb); replace HV2 := Lib.hid (HV2.out.under hb); clear hb; clear hT; have hT := conf_cells HROW.out (Below.refl _ _); clear H1R)
    | (go_at_call 11; refine (twice_any b1 _ v1 v2 l1 m p3 l1.length c3 g1 t1 pm nm cm HBB.out HV1.out HV2.out HNE.out HLl1.out rfl HI.out HMN.out HSP0.out (HMI.out _ HB0.out) zm).mono ?_; rintro e w39 ⟨rfl, hb⟩; clear hT; have hT := conf_cells HROW.out (Below.refl _ _); replace HROW := Lib.hid (row_call hb HROW0.out); replace HB := Lib.hid (below_call hb HB0.out); replace HSP := Lib.hid (row_call hb HSP0.out); replace HBB := Lib.hid hb; clear hb hT HV1 HV2 HNE HI; have hT := conf_cells HROW.out (Below.refl _ _))
    | (go_at_call 12; refine (H2a.out _ _ _ HSP.out).mono ?_; rintro e w11 ⟨hb, v11, rfl, hv11⟩; replace hv11 := hv11.low HBB.out.size; replace HROW := Lib.hid (row_call hb HROW.out); replace HB := Lib.hid (below_call hb HB.out); replace HSP := Lib.hid (row_call hb HSP.out); replace HBB := Lib.hid (below_call hb HBB.out); clear hb; clear hT; have hT := conf_cells HROW.out (Below.refl _ _); have HV11 := Lib.hid hv11; clear hv11; clear H2a)
    | (go_at_call 12; refine (H2b.out _ _ _ HSP.out).mono ?_; rintro e w12 ⟨hb, v12, rfl, hv12⟩; have HNE := Lib.hid (apart_of HV11.out hv12); replace hv12 := hv12.low HBB.out.size; replace HROW := Lib.hid (row_call hb HROW.out); replace HB := Lib.hid (below_call hb HB.out); replace HSP := Lib.hid (row_call hb HSP.out); replace HBB := Lib.hid (below_call hb HBB.out); replace HV11 := Lib.hid (HV11.out.under hb); clear hb; clear hT; have hT := conf_cells HROW.out (Below.refl _ _); have HV12 := Lib.hid hv12; clear hv12; clear H2b)
    | (go_at_call 13; refine (H2R.out _ HB.out).mono ?_; rintro e w13 ⟨hb, v13, rfl, hv13⟩; obtain ⟨p13, c13, rfl, hi13, _⟩ := hv13.open; have HI := Lib.hid hi13; clear hi13 hv13; replace HROW := Lib.hid (row_call hb HROW.out); replace HB := Lib.hid (below_call hb HB.out); replace HSP := Lib.hid (row_call hb HSP.out); replace HBB := Lib.hid (below_call hb HBB.out); replace HV11 := Lib.hid (HV11.out.under hb); replace HV12 := Lib.hid (HV12.out.under hb); clear hb; clear hT; have hT := conf_cells HROW.out (Below.refl _ _); clear H2R)
    | (go_at_call 11; refine (twice_any b1 _ v11 v12 l2 m p13 l2.length c13 g1 t1 pm nm cm HBB.out HV11.out HV12.out HNE.out HLl2.out rfl HI.out HMN.out HSP0.out (HMI.out _ HB0.out) zm).mono ?_; rintro e w139 ⟨rfl, hb⟩; clear hT; have hT := conf_cells HROW.out (Below.refl _ _); replace HROW := Lib.hid (row_call hb HROW0.out); replace HB := Lib.hid (below_call hb HB0.out); replace HSP := Lib.hid (row_call hb HSP0.out); replace HBB := Lib.hid hb; clear hb hT HV11 HV12 HNE HI; have hT := conf_cells HROW.out (Below.refl _ _))
    | (go_at_call 8; refine (HS2.out _ HB.out).mono ?_; rintro e b2 ⟨hb, g2, t2, rfl, hge, hrow⟩; rw [spareL_len, HBN.out]; replace HROW := Lib.hid (row_call hb HROW.out); replace HB := Lib.hid (below_call hb HB.out); clear hb; clear hT; have hT := conf_cells HROW.out (Below.refl _ _); have HSP := Lib.hid hrow; have HSP0 := Lib.hid hrow; have HROW0 := HROW; have HB0 := HB; have HBB := Lib.hid (Below.refl b2.heap.size b2); clear hrow hge HS2)
    | (go_at_call 14; refine (H3a.out _ _ _ HSP.out).mono ?_; rintro e w21 ⟨hb, v21, rfl, hv21⟩; replace hv21 := hv21.low HBB.out.size; replace HROW := Lib.hid (row_call hb HROW.out); replace HB := Lib.hid (below_call hb HB.out); replace HSP := Lib.hid (row_call hb HSP.out); replace HBB := Lib.hid (below_call hb HBB.out); clear hb; clear hT; have hT := conf_cells HROW.out (Below.refl _ _); have HV21 := Lib.hid hv21; clear hv21; clear H3a)
    | ((with_reducible refine guard_list ?_); refine held_st 25 _ _ rfl ?_; refine st_row rfl _ _ _ rfl _ (vals D3) rfl rfl _ _ (heap_alloc_new w21 _) 16 tDrop HD3.out rfl (vals_one _) ?_; rw [World.setRow_alloc_new]; have hb := (Below.refl w21.heap.size w21).alloc (Nat.le_refl _) (.cells (vals D3) 25); have HDA := Lib.hid (heap_alloc_new w21 (.cells (vals D3) 25)); replace HROW := Lib.hid (row_call hb HROW.out); replace HB := Lib.hid (below_call hb HB.out); replace HSP := Lib.hid (row_call hb HSP.out); replace HBB := Lib.hid (below_call hb HBB.out); replace HV21 := Lib.hid (HV21.out.under hb); clear hb; clear hT; have hT := conf_cells HROW.out (Below.refl _ _); clear HSA)
    | (go_at_call 14; refine (H3b.out _ _ _ HSP.out).mono ?_; rintro e w22 ⟨hb, v22, rfl, hv22⟩; have HNE := Lib.hid (apart_of HV21.out hv22); replace hv22 := hv22.low HBB.out.size; replace HROW := Lib.hid (row_call hb HROW.out); replace HB := Lib.hid (below_call hb HB.out); replace HSP := Lib.hid (row_call hb HSP.out); replace HBB := Lib.hid (below_call hb HBB.out); replace HV21 := Lib.hid (HV21.out.under hb); replace HDA := Lib.hid (row_call hb HDA.out); clear hb; clear hT; have hT := conf_cells HROW.out (Below.refl _ _); have HV22 := Lib.hid hv22; clear hv22; clear H3b)
    | (go_at_call 15; refine (H3R.out _ HB.out).mono ?_; rintro e w23 ⟨hb, v23, rfl, hv23⟩; obtain ⟨p23, c23, rfl, hi23, _⟩ := hv23.open; have HI := Lib.hid hi23; clear hi23 hv23; replace HROW := Lib.hid (row_call hb HROW.out); replace HB := Lib.hid (below_call hb HB.out); replace HSP := Lib.hid (row_call hb HSP.out); replace HBB := Lib.hid (below_call hb HBB.out); replace HV21 := Lib.hid (HV21.out.under hb); replace HV22 := Lib.hid (HV22.out.under hb); replace HDA := Lib.hid (row_call hb HDA.out); clear hb; clear hT; have hT := conf_cells HROW.out (Below.refl _ _); clear H3R)
    | ((with_reducible refine guard_list ?_); refine held_st 25 _ _ rfl ?_; refine st_row rfl _ _ _ rfl _ (vals D3) rfl rfl _ _ (heap_alloc_new w23 _) 16 tDrop HD3.out rfl (vals_one _) ?_; rw [World.setRow_alloc_new]; have hb := (Below.refl w23.heap.size w23).alloc (Nat.le_refl _) (.cells (vals D3) 25); have HDB := Lib.hid (heap_alloc_new w23 (.cells (vals D3) 25)); replace HROW := Lib.hid (row_call hb HROW.out); replace HB := Lib.hid (below_call hb HB.out); replace HSP := Lib.hid (row_call hb HSP.out); replace HBB := Lib.hid (below_call hb HBB.out); replace HV21 := Lib.hid (HV21.out.under hb); replace HV22 := Lib.hid (HV22.out.under hb); replace HDA := Lib.hid (row_call hb HDA.out); replace HI := Lib.hid (HI.out.keep hb); clear hb; clear hT; have hT := conf_cells HROW.out (Below.refl _ _); clear HSB)
    | ((with_reducible refine guard_list ?_); refine held_load 25 _ rfl ?_; refine ld_row rfl _ _ rfl w21.heap.size rfl (vals D3) _ HDA.out 16 tDrop HD3.out ?_)
    | ((with_reducible refine guard_list ?_); refine held_load 25 _ rfl ?_; refine ld_row rfl _ _ rfl w23.heap.size rfl (vals D3) _ HDB.out 16 tDrop HD3.out ?_)
    | ((with_reducible refine guard_list ?_); refine wpList_bin .neq 25 _ _ _ _ _ (.bool false) rfl rfl rfl rfl (neq_drop D3 HD3L.out _) ?_)
    | (go_at_call 11; refine (twice_any b2 _ v21 v22 l3 B p23 l3.length c23 g2 t2 qb nb cb HBB.out HV21.out HV22.out HNE.out HLl3.out rfl HI.out HBN.out HSP0.out (HBI.out _ HB0.out) zB).mono ?_; rintro e w239 ⟨rfl, hb⟩; clear hT; have hT := conf_cells HROW.out (Below.refl _ _); replace HROW := Lib.hid (row_call hb HROW0.out); replace HB := Lib.hid (below_call hb HB0.out); replace HSP := Lib.hid (row_call hb HSP0.out); replace HBB := Lib.hid hb; clear hb hT HV21 HV22 HNE HI; have hT := conf_cells HROW.out (Below.refl _ _))
    | (go_at_call 16; refine (H4a.out _ _ _ HSP.out).mono ?_; rintro e w31 ⟨hb, v31, rfl, hv31⟩; replace hv31 := hv31.low HBB.out.size; replace HROW := Lib.hid (row_call hb HROW.out); replace HB := Lib.hid (below_call hb HB.out); replace HSP := Lib.hid (row_call hb HSP.out); replace HBB := Lib.hid (below_call hb HBB.out); clear hb; clear hT; have hT := conf_cells HROW.out (Below.refl _ _); have HV31 := Lib.hid hv31; clear hv31; clear H4a)
    | (go_at_call 16; refine (H4b.out _ _ _ HSP.out).mono ?_; rintro e w32 ⟨hb, v32, rfl, hv32⟩; have HNE := Lib.hid (apart_of HV31.out hv32); replace hv32 := hv32.low HBB.out.size; replace HROW := Lib.hid (row_call hb HROW.out); replace HB := Lib.hid (below_call hb HB.out); replace HSP := Lib.hid (row_call hb HSP.out); replace HBB := Lib.hid (below_call hb HBB.out); replace HV31 := Lib.hid (HV31.out.under hb); clear hb; clear hT; have hT := conf_cells HROW.out (Below.refl _ _); have HV32 := Lib.hid hv32; clear hv32; clear H4b)
    | (go_at_call 17; refine (H4R.out _ HB.out).mono ?_; rintro e w33 ⟨hb, v33, rfl, hv33⟩; obtain ⟨p33, c33, rfl, hi33, _⟩ := hv33.open; have HI := Lib.hid hi33; clear hi33 hv33; replace HROW := Lib.hid (row_call hb HROW.out); replace HB := Lib.hid (below_call hb HB.out); replace HSP := Lib.hid (row_call hb HSP.out); replace HBB := Lib.hid (below_call hb HBB.out); replace HV31 := Lib.hid (HV31.out.under hb); replace HV32 := Lib.hid (HV32.out.under hb); clear hb; clear hT; have hT := conf_cells HROW.out (Below.refl _ _); clear H4R)
    | (go_at_call 11; refine (twice_any b2 _ v31 v32 l4 B p33 l4.length c33 g2 t2 qb nb cb HBB.out HV31.out HV32.out HNE.out HLl4.out rfl HI.out HBN.out HSP0.out (HBI.out _ HB0.out) zB).mono ?_; rintro e w339 ⟨rfl, hb⟩; clear hT; have hT := conf_cells HROW.out (Below.refl _ _); replace HROW := Lib.hid (row_call hb HROW0.out); replace HB := Lib.hid (below_call hb HB0.out); replace HSP := Lib.hid (row_call hb HSP0.out); replace HBB := Lib.hid hb; clear hb hT HV31 HV32 HNE HI; have hT := conf_cells HROW.out (Below.refl _ _))
  exact ⟨rfl, .bool true, by kernel_rfl, rfl, HB.out⟩
end Go.Proofs.YtmochmpamgfboaaDoor
