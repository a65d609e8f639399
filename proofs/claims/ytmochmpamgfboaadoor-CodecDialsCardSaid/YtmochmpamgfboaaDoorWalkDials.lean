/- The walk of CodecDials. Condition: the program's variable errors.errorType is as its text lays it. -/
import Derived.Test.YtmochmpamgfboaaDoorTwi
import Derived.Test.YtmochmpamgfboaaDoorDialx
import Derived.Test.YtmochmpamgfboaaDoorOpsV
namespace Go.Proofs.YtmochmpamgfboaaDoor
open Go.RowKit
theorem apart_of {w w' : World} {B : Nat} {v v' : Value} {l l' : List Int} (h1 : Bts w B v l) (h2 : Bts w' w.heap.size v' l') : v.ownBlock = none ∨ v.ownBlock ≠ v'.ownBlock := by
  cases e : v.ownBlock with
  | none => exact .inl rfl
  | some x =>
    refine .inr fun e2 => ?_
    have h3 := (h1.lt x e).2
    have h4 := (h2.lt x e2.symm).1
    omega
theorem apart_ofM {w w' : World} {B : Nat} {v v' : Value} {l l' : List Int} (h1 : BtsM w B v l) (h2 : BtsM w' w.heap.size v' l') : v.ownBlock = none ∨ v.ownBlock ≠ v'.ownBlock := by
  cases e : v.ownBlock with
  | none => exact .inl rfl
  | some x =>
    refine .inr fun e2 => ?_
    have h3 := (h1.lt x e).2
    have h4 := (h2.lt x e2.symm).1
    omega
theorem wpList_ld_at {o : Oper} {a : Act} {w : World} {Q : Exit → Act → World → Prop} {ops : Array Oper} {rest : List Oper} {P : Program} (hgd : o.guard = none) (ty : TypeId) (x : Operand) (ho : o.op = .load ty x) (ad : Addr) (hx : a.eval x = .pointer (some ad)) (cs : Array Value) (n : Nat) (hT : RowT P ty n) (hn : cs.size = n) (hc : CellsAt w ad cs)
    (h : wpList P ops Q rest (a.put o.dst (.agg cs)) w) : wpList P ops Q (o :: rest) a w := by
  refine wpList_step fun K hK => if_always hgd (wp_val (.agg cs) ?_ (hK _ _ h))
  unfold execOp; rw [ho]
  show ((do let z ← Instr.loadAt ty (a.eval x); pure (Next.value z)) : Sem Next).run P w = _
  rw [hx, Sem.run_bind, run_load_at hT hn hc]
  rfl
theorem row_part {w : World} {g o : Nat} {cs ds : Array Value} {t : TypeId} (h : w.heap[g]? = some (.cells cs t (0, 0))) (hs : ∀ j v, ds[j]? = some v → cs[o + j]? = some v) : CellsAt w ⟨g, o, none⟩ ds := fun j v hv => by
  have e : (⟨g, o, none⟩ : Addr).add j = ⟨g, o + j, none⟩ := by unfold Addr.add; split <;> simp_all
  rw [e, cell_of_row w g _ cs t (0, 0) h]
  exact hs j v hv
theorem dialQ_short {g : Bool} {n2 k q : Int} {m l : List Int} (h : dialQ g n2 k m = (l, q)) : l.length ≤ 1099511627776 := by
  unfold dialQ at h
  split at h
  · split at h
    · split at h
      · rename_i h1
        injection h with h2 h3
        subst h2
        rw [List.length_append, le4_len, h1]
        decide
      · injection h with h2 h3; subst h2; simp
    · injection h with h2 h3; subst h2; simp
  · injection h with h2 h3; subst h2; simp
theorem dialP_short {g : Bool} {n2 y q : Int} {b l : List Int} (h : dialP g n2 b = (y, l, q)) : l.length ≤ 1099511627776 := by
  unfold dialP at h
  split at h
  · split at h
    · rename_i h1
      split at h
      · injection h with h2 h3; injection h3 with h3 h4; subst h3; rw [List.length_drop, h1]; decide
      · injection h with h2 h3; injection h3 with h3 h4; subst h3; simp
    · injection h with h2 h3; injection h3 with h3 h4; subst h3; simp
  · injection h with h2 h3; injection h3 with h3 h4; subst h3; simp
theorem tSlc : CellT Tryd.prog 26 := ⟨_, Tryd.underlying26, rfl⟩
/-- What the last region of CodecDials keeps. -/
def AckF (W : World) (a3 a4 a5 : Value) (f : Nat → Bool) (v : Nat → Value) (w : World) : Prop :=
  Below W.heap.size W w ∧ (f 0 = true → BtsM w W.heap.size (v 0) ackL) ∧ (f 1 = true → f 0 = true ∧ BtsM w W.heap.size (v 1) ackL ∧ ((v 0).ownBlock = none ∨ (v 0).ownBlock ≠ (v 1).ownBlock)) ∧ (f 2 = true → Bts w W.heap.size (v 2) ackL) ∧ (f 3 = true → v 3 = a3) ∧ (f 4 = true → v 4 = a4) ∧ (f 5 = true → v 5 = a5)
theorem AckF.stay {W : World} {a3 a4 a5 : Value} {f : Nat → Bool} {v : Nat → Value} {w w' : World} (h : AckF W a3 a4 a5 f v w) (hb : Below w.heap.size w w') : AckF W a3 a4 a5 f v w' :=
  ⟨below_call hb h.1, fun hf => (h.2.1 hf).under hb, fun hf => ⟨(h.2.2.1 hf).1, (h.2.2.1 hf).2.1.under hb, (h.2.2.1 hf).2.2⟩, fun hf => (h.2.2.2.1 hf).under hb, h.2.2.2.2⟩
set_option maxHeartbeats 16000000 in
set_option maxRecDepth 100000 in
theorem codecDials_walk (n0 n1 n2 n3 n4 n5 k : Int) (pm qb : Option Addr) (m B : List Int) (nm cm nb cb : Nat) (w : World) (hh : Handle w) (lm : m.length = nm) (im : BytesIn w pm m) (hm : pm = none → cm = 0) (zm : nm ≤ 140737488355328)
    (lB : B.length = nb) (bB : Byt B) (iB : BytesIn w qb B) (cB : nb ≤ cb) (zB : nb ≤ 140737488355328) :
    Calls Tryd.prog 5 #[.agg #[.int .i64 n0, .int .i64 n1, .int .i64 n2, .int .i64 n3, .int .i64 n4, .int .i64 n5, .int .i64 k, .slice pm nm cm, .slice qb nb cb]] w (fun e w' => e = .returned (.bool true) ∧ Below w.heap.size w w') := by
  obtain ⟨l1, k1, e1⟩ : ∃ l q, dialQ (good n0 n1 n2 n3 n4 n5) n2 k m = (l, q) := ⟨_, _, rfl⟩
  obtain ⟨y3, l3, k3, e3⟩ : ∃ y l q, dialP (good n0 n1 n2 n3 n4 n5) n2 B = (y, l, q) := ⟨_, _, _, rfl⟩
  have HLl1 := Lib.hid (dialQ_short e1)
  have HLl3 := Lib.hid (dialP_short e3)
  have HMN := Lib.hid lm
  have HBN := Lib.hid lB
  have HMI := Lib.hid (show ∀ w', Below w.heap.size w w' → BytesIn w' pm m from fun w' h => im.under h (Nat.le_refl _))
  have HBI := Lib.hid (show ∀ w', Below w.heap.size w w' → BytesIn w' qb B from fun w' h => iB.under h (Nat.le_refl _))
  have sp_in : ∀ (w' : World) (g : Nat) (t : TypeId) (l : List Int), w'.heap[g]? = some (.cells (vals (spareL l)) t (0, 0)) → BytesIn w' (some ⟨g, 0, none⟩) l := fun w' g t l h => BytesIn.vals 0 h (by rw [List.drop_zero]; exact spareL_take l)
  have HS1 := Lib.hid (show ∀ w', Below w.heap.size w w' → Calls Tryd.prog 8 #[.slice pm nm cm] w' (NewBytes w' (spareL m) nm) from fun w' h => spare_any pm m nm cm w' lm (HMI.out _ h) zm)
  have HS2 := Lib.hid (show ∀ w', Below w.heap.size w w' → Calls Tryd.prog 8 #[.slice qb nb cb] w' (NewBytes w' (spareL B) nb) from fun w' h => spare_any qb B nb cb w' lB (HBI.out _ h) zB)
  have H1a := Lib.hid (show ∀ (w' : World) (g : Nat) (t : TypeId), w'.heap[g]? = some (.cells (vals (spareL m)) t (0, 0)) → Below w.heap.size w w' → Calls Tryd.prog 29 #[.agg #[.int .i64 n0, .int .i64 n1, .int .i64 n2, .int .i64 n3, .int .i64 n4, .int .i64 n5], .int .i64 k, .slice (some ⟨g, 0, none⟩) nm (nm + 80)] w' (Ans w' l1 k1) from fun w' g t h hb => by
    have h1 := dialRequest_any n0 n1 n2 n3 n4 n5 k (some ⟨g, 0, none⟩) nm (nm + 80) m w' (hh.keep hb) lm (sp_in w' g t m h) (fun h => by cases h)
    rw [e1] at h1
    exact h1)
  have H1b := H1a
  have H1R := Lib.hid (show ∀ w', Below w.heap.size w w' → Calls Tryd.prog 30 #[.agg #[.int .i64 n0, .int .i64 n1, .int .i64 n2, .int .i64 n3, .int .i64 n4, .int .i64 n5], .int .i64 k, .slice pm nm cm] w' (Ans w' l1 k1) from fun w' h => by
    have h1 := dialRequestR_any n0 n1 n2 n3 n4 n5 k pm nm cm m w' lm (HMI.out _ h) hm
    rw [e1] at h1
    exact h1)
  have H3a := Lib.hid (show ∀ (w' : World) (g : Nat) (t : TypeId), w'.heap[g]? = some (.cells (vals (spareL B)) t (0, 0)) → Below w.heap.size w w' → Calls Tryd.prog 31 #[.agg #[.int .i64 n0, .int .i64 n1, .int .i64 n2, .int .i64 n3, .int .i64 n4, .int .i64 n5], .slice (some ⟨g, 0, none⟩) nb (nb + 80)] w' (AnsN w' y3 l3 k3) from fun w' g t h _ => by
    have h1 := parseDial_any n0 n1 n2 n3 n4 n5 (some ⟨g, 0, none⟩) nb (nb + 80) B w' lB bB (sp_in w' g t B h)
    rw [e3] at h1
    exact h1)
  have H3b := H3a
  have H3R := Lib.hid (show ∀ w', Below w.heap.size w w' → Calls Tryd.prog 32 #[.agg #[.int .i64 n0, .int .i64 n1, .int .i64 n2, .int .i64 n3, .int .i64 n4, .int .i64 n5], .slice qb nb cb] w' (AnsN w' y3 l3 k3) from fun w' h => by
    have h1 := parseDialR_any n0 n1 n2 n3 n4 n5 qb nb cb B w' lB bB (HBI.out _ h) cB
    rw [e3] at h1
    exact h1)
  have HROW := Lib.hid (heap_alloc_new w (.cells #[.int .i64 n0, .int .i64 n1, .int .i64 n2, .int .i64 n3, .int .i64 n4, .int .i64 n5, .int .i64 k, .slice pm nm cm, .slice qb nb cb] 50))
  have HB := Lib.hid ((Below.refl w.heap.size w).alloc (Nat.le_refl _) (.cells #[.int .i64 n0, .int .i64 n1, .int .i64 n2, .int .i64 n3, .int .i64 n4, .int .i64 n5, .int .i64 k, .slice pm nm cm, .slice qb nb cb] 50))
  have hT : True := trivial
  have HDC := Lib.hid (show ∀ (w' : World) (t : TypeId), w'.heap[w.heap.size]? = some (.cells #[.int .i64 n0, .int .i64 n1, .int .i64 n2, .int .i64 n3, .int .i64 n4, .int .i64 n5, .int .i64 k, .slice pm nm cm, .slice qb nb cb] t (0, 0)) → CellsAt w' ⟨w.heap.size, 0, none⟩ #[.int .i64 n0, .int .i64 n1, .int .i64 n2, .int .i64 n3, .int .i64 n4, .int .i64 n5] from fun w' t h => row_part h (fun j v hv => by
    rcases (show j = 0 ∨ j = 1 ∨ j = 2 ∨ j = 3 ∨ j = 4 ∨ j = 5 by have := (Array.getElem?_eq_some_iff.1 hv).1; simp at this; omega) with rfl | rfl | rfl | rfl | rfl | rfl <;> exact hv))
  clear e1 e3 lm im hm lB bB iB cB sp_in hh
  go_enter Tryd.func5, Tryd.ntmps5
  go_wp2_with first
    | ((with_reducible refine guard_list ?_); refine held_load 23 _ rfl ?_; refine wpList_ld_at rfl _ _ rfl ⟨w.heap.size, 0, none⟩ rfl _ 6 tConf rfl (HDC.out _ _ HROW.out) ?_)
    | (go_at_call 8; refine (HS1.out _ HB.out).mono ?_; rintro e b1 ⟨hb, g1, t1, rfl, hge, hrow⟩; rw [spareL_len, HMN.out]; replace HROW := Lib.hid (row_call hb HROW.out); replace HB := Lib.hid (below_call hb HB.out); clear hb; clear hT; have hT := conf_cells HROW.out (Below.refl _ _); have HSP := Lib.hid hrow; have HSP0 := Lib.hid hrow; have HROW0 := HROW; have HB0 := HB; have HBB := Lib.hid (Below.refl b1.heap.size b1); clear hrow hge HS1)
    | (go_at_call 29; refine (H1a.out _ _ _ HSP.out HB.out).mono ?_; rintro e w1 ⟨hb, v1, rfl, hv1⟩; replace hv1 := hv1.low HBB.out.size; replace HROW := Lib.hid (row_call hb HROW.out); replace HB := Lib.hid (below_call hb HB.out); replace HSP := Lib.hid (row_call hb HSP.out); replace HBB := Lib.hid (below_call hb HBB.out); clear hb; clear hT; have hT := conf_cells HROW.out (Below.refl _ _); have HV1 := Lib.hid hv1; clear hv1; clear H1a)
    | (go_at_call 29; refine (H1b.out _ _ _ HSP.out HB.out).mono ?_; rintro e w2 ⟨hb, v2, rfl, hv2⟩; have HNE := Lib.hid (apart_of HV1.out hv2); replace hv2 := hv2.low HBB.out.size; replace HROW := Lib.hid (row_call hb HROW.out); replace HB := Lib.hid (below_call hb HB.out); replace HSP := Lib.hid (row_call hb HSP.out); replace HBB := Lib.hid (below_call hb HBB.out); replace HV1 := Lib.hid (HV1.out.under hb); clear hb; clear hT; have hT := conf_cells HROW.out (Below.refl _ _); have HV2 := Lib.hid hv2; clear hv2; clear H1b)
    | (go_at_call 30; refine (H1R.out _ HB.out).mono ?_; rintro e w3 ⟨hb, v3, rfl, hv3⟩; obtain ⟨p3, c3, rfl, hi3, _⟩ := hv3.open; have HI := Lib.hid hi3; clear hi3 hv3; replace HROW := Lib.hid (row_call hb HROW.out); replace HB := Lib.hid (below_call hb HB.out); replace HSP := Lib.hid (row_call hb HSP.out); replace HBB := Lib.hid (below_call hb HBB.out); replace HV1 := Lib.hid (HV1.out.under hb); replace HV2 := Lib.hid (HV2.out.under hb); clear hb; clear hT; have hT := conf_cells HROW.out (Below.refl _ _); clear H1R)
    | (go_at_call 11; refine (twice_any b1 _ v1 v2 l1 m p3 l1.length c3 g1 t1 pm nm cm HBB.out (.inl HV1.out) (.inl HV2.out) HNE.out HLl1.out rfl HI.out HMN.out HSP0.out (HMI.out _ HB0.out) zm).mono ?_; rintro e w39 ⟨rfl, hb⟩; clear hT; have hT := conf_cells HROW.out (Below.refl _ _); replace HROW := Lib.hid (row_call hb HROW0.out); replace HB := Lib.hid (below_call hb HB0.out); replace HSP := Lib.hid (row_call hb HSP0.out); replace HBB := Lib.hid hb; clear hb hT HV1 HV2 HNE HI; have hT := conf_cells HROW.out (Below.refl _ _))
    | (go_at_call 8; refine (HS2.out _ HB.out).mono ?_; rintro e b2 ⟨hb, g2, t2, rfl, hge, hrow⟩; rw [spareL_len, HBN.out]; replace HROW := Lib.hid (row_call hb HROW.out); replace HB := Lib.hid (below_call hb HB.out); clear hb; clear hT; have hT := conf_cells HROW.out (Below.refl _ _); have HSP := Lib.hid hrow; have HSP0 := Lib.hid hrow; have HROW0 := HROW; have HB0 := HB; have HBB := Lib.hid (Below.refl b2.heap.size b2); clear hrow hge HS2)
    | (go_at_call 31; refine (H3a.out _ _ _ HSP.out HB.out).mono ?_; rintro e w21 ⟨hb, v21, rfl, hv21⟩; replace hv21 := hv21.low HBB.out.size; replace HROW := Lib.hid (row_call hb HROW.out); replace HB := Lib.hid (below_call hb HB.out); replace HSP := Lib.hid (row_call hb HSP.out); replace HBB := Lib.hid (below_call hb HBB.out); clear hb; clear hT; have hT := conf_cells HROW.out (Below.refl _ _); have HV21 := Lib.hid hv21; clear hv21; clear H3a)
    | (go_at_call 31; refine (H3b.out _ _ _ HSP.out HB.out).mono ?_; rintro e w22 ⟨hb, v22, rfl, hv22⟩; have HNE := Lib.hid (apart_of HV21.out hv22); replace hv22 := hv22.low HBB.out.size; replace HROW := Lib.hid (row_call hb HROW.out); replace HB := Lib.hid (below_call hb HB.out); replace HSP := Lib.hid (row_call hb HSP.out); replace HBB := Lib.hid (below_call hb HBB.out); replace HV21 := Lib.hid (HV21.out.under hb); clear hb; clear hT; have hT := conf_cells HROW.out (Below.refl _ _); have HV22 := Lib.hid hv22; clear hv22; clear H3b)
    | (go_at_call 32; refine (H3R.out _ HB.out).mono ?_; rintro e w23 ⟨hb, v23, rfl, hv23⟩; obtain ⟨p23, c23, rfl, hi23, _⟩ := hv23.open; have HI := Lib.hid hi23; clear hi23 hv23; replace HROW := Lib.hid (row_call hb HROW.out); replace HB := Lib.hid (below_call hb HB.out); replace HSP := Lib.hid (row_call hb HSP.out); replace HBB := Lib.hid (below_call hb HBB.out); replace HV21 := Lib.hid (HV21.out.under hb); replace HV22 := Lib.hid (HV22.out.under hb); clear hb; clear hT; have hT := conf_cells HROW.out (Below.refl _ _); clear H3R)
    | (go_at_call 11; refine (twice_any b2 _ v21 v22 l3 B p23 l3.length c23 g2 t2 qb nb cb HBB.out (.inl HV21.out) (.inl HV22.out) HNE.out HLl3.out rfl HI.out HBN.out HSP0.out (HBI.out _ HB0.out) zB).mono ?_; rintro e w239 ⟨rfl, hb⟩; clear hT; have hT := conf_cells HROW.out (Below.refl _ _); replace HROW := Lib.hid (row_call hb HROW0.out); replace HB := Lib.hid (below_call hb HB0.out); replace HSP := Lib.hid (row_call hb HSP0.out); replace HBB := Lib.hid hb; clear hb hT HV21 HV22 HNE HI; have hT := conf_cells HROW.out (Below.refl _ _))
  have HSB := Lib.hid (show ∀ w', Below w239.heap.size w239 w' → w'.cell? ⟨w.heap.size, 8, none⟩ = some (.slice qb nb cb) from fun w' h => conf_cells HROW.out h 8 _ rfl)
  clear hT
  refine hide_frame fun t0 HT => ?_
  have HS : t0.size = 114 := by rw [HT]; rfl
  have h1 : t0[1]? = some (.pointer (some ⟨w.heap.size, 0, none⟩)) := by rw [HT]; rfl
  have h3 : t0[3]? = some (.slice (some ⟨g2, 0, none⟩) nb (nb + 80)) := by rw [HT]; rfl
  clear HT
  refine wp_region_gen 6 (fun i => [102, 103, 104, 105, 106, 107].getD i 0) (AckF w239 (.slice (some ⟨g2, 0, none⟩) nb (nb + 80)) (.pointer (some ⟨w.heap.size, 8, none⟩)) (.slice qb nb cb)) (by kernel_rfl) (by kernel_rfl) (slots_apart (by kernel_rfl)) (slots_lie (by rw [HS]; kernel_rfl))
    ⟨(Below.refl _ _).drew, fun h => (by cases h), fun h => (by cases h), fun h => (by cases h), fun h => (by cases h), fun h => (by cases h), fun h => (by cases h)⟩ ?_ ?_
  · intro i o hi ho
    rcases (show i = 0 ∨ i = 1 ∨ i = 2 ∨ i = 3 ∨ i = 4 ∨ i = 5 by omega) with rfl | rfl | rfl | rfl | rfl | rfl
    · obtain rfl := Option.some.inj ho
      refine ⟨rfl, fun f v a wr hF hfi hdep hold hin K hK => ?_⟩
      refine if_always rfl ?_
      refine wp_fn0 _ _ rfl (by intro args w; kernel_rfl) ((ack_any wr).mono fun e w' hr => ?_)
      obtain ⟨hb, x, he, hx⟩ := hr
      have hF' := hF.stay hb
      exact ⟨x, he, hK x w' ⟨hF'.1, fun _ => hx.low hF.1.size, fun h => absurd ((hF.2.2.1 h).1) (by rw [hfi]; decide), hF'.2.2.2⟩⟩
    · obtain rfl := Option.some.inj ho
      refine ⟨rfl, fun f v a wr hF hfi hdep hold hin K hK => ?_⟩
      refine if_always rfl ?_
      have h0 := hdep 0 rfl
      refine wp_fn0 _ _ rfl (by intro args w; kernel_rfl) ((ack_any wr).mono fun e w' hr => ?_)
      obtain ⟨hb, x, he, hx⟩ := hr
      have hF' := hF.stay hb
      exact ⟨x, he, hK x w' ⟨hF'.1, hF'.2.1, fun _ => ⟨h0, hx.low hF.1.size, apart_ofM (hF.2.1 h0) hx⟩, hF'.2.2.2⟩⟩
    · obtain rfl := Option.some.inj ho
      refine ⟨rfl, fun f v a wr hF hfi hdep hold hin K hK => ?_⟩
      refine if_always rfl ?_
      refine wp_fn0 _ _ rfl (by intro args w; kernel_rfl) ((ackR_any wr).mono fun e w' hr => ?_)
      obtain ⟨hb, x, he, hx⟩ := hr
      have hF' := hF.stay hb
      exact ⟨x, he, hK x w' ⟨hF'.1, hF'.2.1, hF'.2.2.1, fun _ => hx.low hF.1.size, hF'.2.2.2.2⟩⟩
    · obtain rfl := Option.some.inj ho
      refine ⟨rfl, fun f v a wr hF hfi hdep hold hin K hK => ?_⟩
      refine if_always rfl ?_
      exact op_move (V := (· = .slice (some ⟨g2, 0, none⟩) nb (nb + 80))) _ _ rfl rfl (eval_tmp ((hold 3 (slots_not (by kernel_rfl))).trans h3)) rfl (fun x w' hx hb => hK x w' (by
        have hF' := hF.stay hb
        exact ⟨hF'.1, hF'.2.1, hF'.2.2.1, hF'.2.2.2.1, fun _ => hx, hF'.2.2.2.2.2⟩))
    · obtain rfl := Option.some.inj ho
      refine ⟨rfl, fun f v a wr hF hfi hdep hold hin K hK => ?_⟩
      refine if_always rfl ?_
      exact op_field 50 _ 3 _ (.pointer (some ⟨w.heap.size, 8, none⟩)) rfl rfl (eval_tmp ((hold 1 (slots_not (by kernel_rfl))).trans h1)) (fun w => by kernel_rfl) (fun x w' hx hb => hK x w' (by
        have hF' := hF.stay hb
        exact ⟨hF'.1, hF'.2.1, hF'.2.2.1, hF'.2.2.2.1, hF'.2.2.2.2.1, fun _ => hx, hF'.2.2.2.2.2.2⟩))
    · obtain rfl := Option.some.inj ho
      refine ⟨rfl, fun f v a wr hF hfi hdep hold hin K hK => ?_⟩
      refine if_always rfl ?_
      have h4 := hdep 4 rfl
      exact op_cell tSlc _ ⟨w.heap.size, 8, none⟩ rfl rfl (eval_tmp ((hin 4 (by omega) h4).trans (congrArg some (hF.2.2.2.2.2.1 h4)))) (.slice qb nb cb) (HSB.out _ hF.1) (fun x w' hx hb => hK x w' (by
        have hF' := hF.stay hb
        exact ⟨hF'.1, hF'.2.1, hF'.2.2.1, hF'.2.2.2.1, hF'.2.2.2.2.1, hF'.2.2.2.2.2.1, fun _ => hx⟩))
  intro v f t1 wr hs hold hin hall hF
  replace HS := hs.trans HS
  obtain ⟨hb, f0, f1, f2, f3, f4, f5⟩ := hF
  replace f0 := f0 (hall 0 (by omega)); replace f1 := f1 (hall 1 (by omega)); replace f2 := f2 (hall 2 (by omega)); replace f3 := f3 (hall 3 (by omega)); replace f5 := f5 (hall 5 (by omega))
  have q0 : t1[102]? = some (v 0) := hin 0 (by omega)
  have q1 : t1[103]? = some (v 1) := hin 1 (by omega)
  have q2 : t1[104]? = some (v 2) := hin 2 (by omega)
  have q3 : t1[105]? = some (.slice (some ⟨g2, 0, none⟩) nb (nb + 80)) := (hin 3 (by omega)).trans (congrArg some f3)
  have q5 : t1[107]? = some (.slice qb nb cb) := (hin 5 (by omega)).trans (congrArg some f5)
  have HF0 := Lib.hid f0; have HF1 := Lib.hid f1; have HBR := Lib.hid hb
  obtain ⟨pa, ca, e2, hi2, _⟩ := f2.open
  rw [e2] at q2
  have HI := Lib.hid hi2
  clear hold hin hall hs f0 f1 f2 f3 f4 f5 hb hi2 e2
  obtain ⟨F, E0, hf⟩ := wash HS
  have g1 := hf 102 _ q0
  have g2' := hf 103 _ q1
  have g3 := hf 104 _ q2
  have g4 := hf 105 _ q3
  have g5 := hf 107 _ q5
  clear hf
  simp only [List.drop_succ_cons, List.drop_zero]
  rw [E0.trans (show _ = #[F 0, F 1, F 2, F 3, F 4, F 5, F 6, F 7, F 8, F 9, F 10, F 11, F 12, F 13, F 14, F 15, F 16, F 17, F 18, F 19, F 20, F 21, F 22, F 23, F 24, F 25, F 26, F 27, F 28, F 29, F 30, F 31, F 32, F 33, F 34, F 35, F 36, F 37, F 38, F 39, F 40, F 41, F 42, F 43, F 44, F 45, F 46, F 47, F 48, F 49, F 50, F 51, F 52, F 53, F 54, F 55, F 56, F 57, F 58, F 59, F 60, F 61, F 62, F 63, F 64, F 65, F 66, F 67, F 68, F 69, F 70, F 71, F 72, F 73, F 74, F 75, F 76, F 77, F 78, F 79, F 80, F 81, F 82, F 83, F 84, F 85, F 86, F 87, F 88, F 89, F 90, F 91, F 92, F 93, F 94, F 95, F 96, F 97, F 98, F 99, F 100, F 101, F 102, F 103, F 104, F 105, F 106, F 107, F 108, F 109, F 110, F 111, F 112, F 113] from by kernel_rfl), g1, g2', g3, g4, g5]
  clear g1 g2' g3 g4 g5 E0 q0 q1 q2 q3 q5 HS h1 h3 t1 t0
  generalize v 0 = va at *
  generalize v 1 = vb at *
  try dsimp only
  go_wp2_with first
    | (go_at_call 11; refine (twice_any b2 _ va vb ackL B pa ackL.length ca g2 t2 qb nb cb (below_call HBR.out HBB.out) (HF0.out.low HBB.out.size) (HF1.out.2.1.low HBB.out.size) HF1.out.2.2 (by decide) rfl HI.out HBN.out HSP0.out (HBI.out _ HB0.out) zB).mono ?_; rintro e w5 ⟨rfl, hb⟩; replace HBB := Lib.hid hb; clear hb)
    | (go_at_call 33; refine (ack_any _).mono ?_; rintro e w6 ⟨hb, v6, rfl, hv6⟩; obtain ⟨p6, c6, rfl, hi6, _⟩ := hv6.open; have HI6 := Lib.hid hi6; replace HBB := Lib.hid (below_call hb HBB.out); clear hb hv6 hi6)
    | (go_at_call 34; refine (ackR_any _).mono ?_; rintro e w7 ⟨hb, v7, rfl, hv7⟩; obtain ⟨p7, c7, rfl, hi7, _⟩ := hv7.open; have HI7 := Lib.hid hi7; replace HI6 := Lib.hid (HI6.out.keep hb); replace HBB := Lib.hid (below_call hb HBB.out); clear hb hv7 hi7)
    | (go_at_call 21; refine (eqBytes_any p6 p7 ackL ackL _ _ c6 c7 _ rfl rfl HI6.out HI7.out (by decide)).mono ?_; rintro e w8 ⟨_, rfl, rfl, hb⟩; rw [decide_eq_true rfl]; replace HBB := Lib.hid (below_call hb HBB.out); clear hb)
  exact ⟨rfl, .bool true, by kernel_rfl, rfl, below_call HBB.out HB0.out⟩
end Go.Proofs.YtmochmpamgfboaaDoor
