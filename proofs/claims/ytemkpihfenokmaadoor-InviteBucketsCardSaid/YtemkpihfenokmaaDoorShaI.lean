/- (*digest.Hash).Sum: the digest of what went in. Condition: lengths that memory can hold; the table as its text lays it. -/
import Derived.Test.YtemkpihfenokmaaDoorShaH
import Derived.Deep.DeepCutAuto
import Derived.Deep.CutBlock
namespace Go.Proofs.YtemkpihfenokmaaDoor
open Go.RowKit
/-- The 32 bytes that eight words are. -/
def outB (st : List Int) (i : Nat) : Int := nth st (i / 4) / 2 ^ (24 - 8 * (i % 4)) % 256
def outL (st : List Int) : List Int := (List.range 32).map (outB st)
/-- SHA-256. -/
def shaL (m : List Int) : List Int := outL (stN (padL m) ((padL m).length / 64))
theorem tHash : RowT Tryd.prog 56 74 := ⟨_, Tryd.underlying56, rfl, by kernel_rfl⟩
theorem tOut : RowT Tryd.prog 28 32 := ⟨_, Tryd.underlying28, rfl, by kernel_rfl⟩
theorem hash_size {st bk : List Int} {u z : Int} (hs : st.length = 8) (hb : bk.length = 64) : (hashC st bk u z).size = 74 := by simp [hashC, hs, hb]
theorem hash_one (st bk : List Int) (u z : Int) : (hashC st bk u z).all (·.oneCell') = true := by
  rw [Array.all_eq_true_iff_forall_mem]
  intro v hv
  simp only [hashC, List.mem_toArray, List.mem_append, List.mem_map, List.mem_cons, List.not_mem_nil, or_false] at hv
  rcases hv with (⟨_, _, rfl⟩ | ⟨_, _, rfl⟩) | rfl | rfl <;> rfl
/-- The bytes that Sum puts behind. -/
def padT (m : List Int) : List Int := [128] ++ List.replicate (padZ m.length) 0 ++ be8 (8 * m.length)
theorem padT_pad (m : List Int) : m ++ padT m = padL m := by simp [padT, padL]
/-- The bytes of pad, k of the length's laid. -/
def padB (n k : Nat) : List Int := [128] ++ zer (padZ n) ++ (be8 (8 * n)).take k ++ zer (127 - padZ n - k)
theorem padB_zero (n : Nat) : padB n 0 = [128] ++ zer 127 := by
  have : padZ n < 64 := by rw [padZ]; omega
  simp only [padB, zer, List.take_zero, List.append_nil, List.append_assoc]
  rw [List.replicate_append_replicate, show padZ n + (127 - padZ n - 0) = 127 by omega]
theorem padB_len (n k : Nat) (hk : k ≤ 8) : (padB n k).length = 128 := by
  have : padZ n < 64 := by rw [padZ]; omega
  have h8 : (be8 (8 * n)).length = 8 := rfl
  simp only [padB, List.length_append, List.length_take, zer_len, h8, List.length_cons, List.length_nil]
  omega
theorem padB_set (n k : Nat) (hk : k < 8) : (vals (padB n k)).setIfInBounds (padZ n + 1 + k) (.int .u8 (nth (be8 (8 * n)) k)) = vals (padB n (k + 1)) := by
  have : padZ n < 64 := by rw [padZ]; omega
  have h8 : (be8 (8 * n)).length = 8 := rfl
  have hl : ([128] ++ zer (padZ n) ++ (be8 (8 * n)).take k).length = padZ n + 1 + k := by
    simp only [List.length_append, List.length_take, zer_len, h8, List.length_cons, List.length_nil]
    omega
  apply Array.ext'
  simp only [vals, Array.toList_setIfInBounds, padB]
  rw [← List.map_set, List.set_append_right _ _ (by omega), hl, Nat.sub_self]
  obtain ⟨q, hq⟩ : ∃ q, 127 - padZ n - k = q + 1 := ⟨127 - padZ n - k - 1, by omega⟩
  rw [hq, show zer (q + 1) = 0 :: zer q from List.replicate_succ, List.set_cons_zero, show 127 - padZ n - (k + 1) = q by omega, take_nth _ k (by rw [h8]; exact hk)]
  simp
theorem padT_byt (m : List Int) : Byt (padT m) := by
  intro x hx
  simp only [padT, be8, List.mem_append, List.mem_cons, List.not_mem_nil, or_false, List.mem_replicate] at hx
  rcases hx with (rfl | ⟨_, rfl⟩) | h
  · decide
  · decide
  · rcases h with rfl | rfl | rfl | rfl | rfl | rfl | rfl | rfl <;> omega
/-- The bytes of the answer, k of them laid. -/
def outP (st : List Int) (k : Nat) : List Int := (List.range k).map (outB st) ++ List.replicate (32 - k) 0
theorem outP_len (st : List Int) (k : Nat) (hk : k ≤ 32) : (outP st k).length = 32 := by
  simp only [outP, List.length_append, List.length_map, List.length_range, List.length_replicate]
  omega
theorem outP_set (st : List Int) (k : Nat) (hk : k < 32) : (vals (outP st k)).setIfInBounds k (.int .u8 (outB st k)) = vals (outP st (k + 1)) := by
  apply Array.ext'
  simp only [vals, Array.toList_setIfInBounds, outP]
  rw [← List.map_set, fill_set hk]
section
variable {o : Oper} {w : World} {a : Act} {Q : Exit → Act → World → Prop} {ops : Array Oper} {rest : List Oper} {P : Program}
theorem held_bin {P : Program} {ops : Array Oper} {rest : List Oper} {o : Oper} {Q : Exit → Act → World → Prop} {a : Act} {w : World} (b : BinOp) (t t' : TypeId) (x y : Operand) (_ : o.op = .binOp b t x y t') (h : Held (wpList P ops Q (o :: rest) a w)) : wpList P ops Q (o :: rest) a w := h
/-- k / c and k % c for numbers that are not negative. -/
theorem wpl_quo (hgd : o.guard = none) (t t' : TypeId) (x y : Operand) (ho : o.op = .binOp .quo t x y t') (k c : Nat) (hx : a.eval x = .int .i64 (k : Nat)) (hy : a.eval y = .int .i64 (c : Nat)) (hc : 0 < c) (hk : k < 9223372036854775808) (h : wpList P ops Q rest (a.put o.dst (.int .i64 ((k / c : Nat) : Int))) w) : wpList P ops Q (o :: rest) a w := by
  have hd : k / c ≤ k := Nat.div_le_self k c
  refine wpList_step fun K hK => if_always hgd (wp_val (.int .i64 ((k / c : Nat) : Int)) ?_ (hK _ _ h))
  unfold execOp; rw [ho]
  have e : IntKind.i64.wrap ((k / c : Nat) : Int) = ((k / c : Nat) : Int) := by
    generalize k / c = q at *
    exact IntWalk.i64_in _ (by omega)
  have e2 : ((k : Nat) : Int).tdiv (c : Nat) = ((k / c : Nat) : Int) := rfl
  simp only [hx, hy, eqGuard_quo, binOp_quo, Op.intDiv, Sem.run_bind, Sem.run_pure, Result.andThen_ok, e2, e]
  rw [if_neg (by omega)]
  rfl
theorem wpl_rem (hgd : o.guard = none) (t t' : TypeId) (x y : Operand) (ho : o.op = .binOp .rem t x y t') (k c : Nat) (hx : a.eval x = .int .i64 (k : Nat)) (hy : a.eval y = .int .i64 (c : Nat)) (hc : 0 < c) (h : wpList P ops Q rest (a.put o.dst (.int .i64 ((k % c : Nat) : Int))) w) : wpList P ops Q (o :: rest) a w := by
  refine wpList_step fun K hK => if_always hgd (wp_val (.int .i64 ((k % c : Nat) : Int)) ?_ (hK _ _ h))
  unfold execOp; rw [ho]
  have e2 : ((k : Nat) : Int).tmod (c : Nat) = ((k % c : Nat) : Int) := rfl
  simp only [hx, hy, eqGuard_rem, binOp_rem, Op.intDiv, Sem.run_bind, Sem.run_pure, Result.andThen_ok, e2]
  rw [if_neg (by omega)]
  rfl
end
set_option maxHeartbeats 4000000 in
set_option maxRecDepth 100000 in
theorem sumH_any (g : Nat) (m : List Int) (w : World) (h : HashAt w g m m.length) (ht : Tab w) (hm : m.length ≤ 1152921504606846976) :
    Calls Tryd.prog 14 #[.pointer (some ⟨g, 0, none⟩)] w (fun e w' => e = .returned (.agg (vals (shaL m))) ∧ Below w.heap.size w w') := by
  obtain ⟨bk, hib, hrow⟩ := h
  have HST := Lib.hid (stN_len m (m.length / 64))
  have HIB := Lib.hid hib
  have HROW := Lib.hid hrow
  have HTAB := Lib.hid ht
  obtain ⟨u, hu⟩ : ∃ u, u = m.length % 64 := ⟨_, rfl⟩
  have hu64 : u < 64 := by omega
  rw [← hu] at HROW
  have HU := Lib.hid hu
  obtain ⟨ln, hln⟩ : ∃ ln, ln = m.length := ⟨_, rfl⟩
  obtain ⟨st, hst⟩ : ∃ st, st = stN m (m.length / 64) := ⟨_, rfl⟩
  rw [← hst] at HROW HST
  rw [← hln] at hm HROW
  have HLN := Lib.hid hln
  have HSE := Lib.hid hst
  clear hib hrow ht hu hst hln
  go_enter Tryd.func14, Tryd.ntmps14
  have HA1 := Lib.hid ((Below.refl w.heap.size w).alloc (Nat.le_refl _) (.cells (vals (zer 32)) 28))
  have T1 : True := trivial
  have T2 : True := trivial
  have h72 := hash_at72 (u := (u : Int)) (z := (ln : Int)) HST.out HIB.out.1
  have h73 := hash_at73 (u := (u : Int)) (z := (ln : Int)) HST.out HIB.out.1
  go_upto_if 21 with (first
    | ((with_reducible refine guard_list ?_); (refine held_alloc 28 rfl ?_); refine wpl_alloc rfl 28 rfl (.agg (vals (zer 32))) (vals (zer 32)) rfl (fun w => by kernel_rfl) ?_)
    | ((with_reducible refine guard_list ?_); (refine held_load 56 _ rfl ?_); refine wpl_ld_at2 rfl _ _ rfl ⟨g, 0, none⟩ rfl (hashC st bk u ln) 74 tHash (hash_size HST.out HIB.out.1) (fun j v hv => by rw [add_lit]; exact (row_cell (row_call HA1.out HROW.out) j).trans hv) ?_)
    | ((with_reducible refine guard_list ?_); (refine held_alloc 56 rfl ?_); refine wpl_alloc rfl 56 rfl (.agg (hashC (zer 8) (zer 64) 0 0)) (hashC (zer 8) (zer 64) 0 0) rfl (fun w => by kernel_rfl) ?_)
    | ((with_reducible refine guard_list ?_); (refine held_st 56 _ _ rfl ?_); refine st_new rfl _ _ _ rfl (hashC st bk u ln) _ _ rfl rfl 74 tHash (hash_size HST.out HIB.out.1) (hash_size (zer_len 8) (zer_len 64)) (hash_one st bk u ln) ?_)
    | ((with_reducible refine guard_list ?_); (refine held_alloc 57 rfl ?_); refine wpl_alloc rfl 57 rfl (.agg (vals (zer 128))) (vals (zer 128)) rfl (fun w => by kernel_rfl) ?_; clear T1))
  have HA4 := Lib.hid ((((Below.refl w.heap.size w).alloc (Nat.le_refl _) (.cells (vals (zer 32)) 28)).alloc (by simp; try omega) (.cells (hashC st bk u ln) 56)).alloc (by simp; try omega) (.cells ((vals (zer 128)).setIfInBounds 0 (.int .u8 128)) 57))
  go_cut [5] (fun v wc => v = .int .i64 ((padZ ln + 1 : Nat) : Int) ∧ wc.heap[w.heap.size]? = some (.cells (vals (zer 32)) 28 (0, 0)) ∧ wc.heap[w.heap.size + 1]? = some (.cells (hashC st bk u ln) 56 (0, 0)) ∧ wc.heap[w.heap.size + 2]? = some (.cells (vals ([128] ++ zer 127)) 57 (0, 0)) ∧ Below w.heap.size w wc)
  case first =>
    have hpz : padZ ln = (119 - u) % 64 := by rw [padZ, HU.out, HLN.out]
    by_cases hb : u < 56
    · have e1 : (56 : Int) - u = ((padZ ln + 1 : Nat) : Int) := by omega
      have e2 : ¬ ((padZ ln + 1 : Nat) : Int) < 1 := by omega
      go_wp2_with fail
      go_meet
      case rel => exact ⟨by congr 1; omega, new3_0 _ _ _ _, new3_1 _ _ _ _, new3_2 _ _ _ _, HA4.out⟩
    · have e1 : (56 : Int) - u < 1 := by omega
      have e3 : (56 : Int) - u + 64 = ((padZ ln + 1 : Nat) : Int) := by omega
      go_wp2_with fail
      go_meet
      case rel => exact ⟨by rw [← e3]; go_num, new3_0 _ _ _ _, new3_1 _ _ _ _, new3_2 _ _ _ _, HA4.out⟩
  case rest =>
    obtain ⟨rfl, hr0, hr1, hr2, hb⟩ := hcut
    have HR0 := Lib.hid hr0
    have HR1 := Lib.hid hr1
    have HR2 := Lib.hid (show wc.heap[w.heap.size + 1 + 1]? = some (.cells (vals (padB ln 0)) 57 (0, 0)) by rw [padB_zero]; exact hr2)
    have HB := Lib.hid hb
    clear hr0 hr1 hr2 hb HA4 h72 h73 HA1
    have v73 := (row_cell HR1.out 73).trans (hash_at73 HST.out HIB.out.1)
    have e8 : IntKind.u64.wrap (8 * (ln : Int)) = 8 * (ln : Int) := by rw [IntKind.wrap_u64]; omega
    obtain ⟨N, hN⟩ : ∃ N, N = padZ ln + 1 := ⟨_, rfl⟩
    have hN64 : N < 65 := by rw [hN, padZ]; omega
    rw [← hN]
    have HN := Lib.hid hN
    clear hN
    go_wp2_with fail
    go_loopw [27] (fun i wr => ∃ k : Nat, k ≤ 8 ∧ i = .int .i64 (k : Nat) ∧ wr.heap[w.heap.size]? = some (.cells (vals (zer 32)) 28 (0, 0)) ∧ wr.heap[w.heap.size + 1]? = some (.cells (hashC st bk u ln) 56 (0, 0)) ∧ wr.heap[w.heap.size + 1 + 1]? = some (.cells (vals (padB ln k)) 57 (0, 0)) ∧ Below w.heap.size w wr) (fun i _ => 8 - (intOf i).toNat)
    case atStart => exact ⟨0, by omega, rfl, HR0.out, HR1.out, HR2.out, HB.out⟩
    case round =>
      clear HR0 HR1 HR2 HB v73 e8
      obtain ⟨k, hk, rfl, hr0, hr1, hr2, hb⟩ := hrel
      have HR0 := Lib.hid hr0
      have HR1 := Lib.hid hr1
      have HR2 := Lib.hid hr2
      have HB := Lib.hid hb
      clear hr0 hr1 hr2 hb
      by_cases hlt : k < 8
      · have HSTEP := Lib.hid (show ∀ x : Int, x = nth (be8 (8 * ln)) k → Hid ((wr.setCell ⟨w.heap.size + 1 + 1, N + k, none⟩ (.int .u8 x)).heap[w.heap.size]? = some (.cells (vals (zer 32)) 28 (0, 0)) ∧ (wr.setCell ⟨w.heap.size + 1 + 1, N + k, none⟩ (.int .u8 x)).heap[w.heap.size + 1]? = some (.cells (hashC st bk u ln) 56 (0, 0)) ∧ (wr.setCell ⟨w.heap.size + 1 + 1, N + k, none⟩ (.int .u8 x)).heap[w.heap.size + 1 + 1]? = some (.cells (vals (padB ln (k + 1))) 57 (0, 0)) ∧ Below w.heap.size w (wr.setCell ⟨w.heap.size + 1 + 1, N + k, none⟩ (.int .u8 x))) from fun x hx => Lib.hid (by
          subst hx
          refine ⟨(heap_setCell_other wr ⟨w.heap.size + 1 + 1, N + k, none⟩ _ _ (by show w.heap.size ≠ w.heap.size + 1 + 1; omega)).trans HR0.out, (heap_setCell_other wr ⟨w.heap.size + 1 + 1, N + k, none⟩ _ _ (by show w.heap.size + 1 ≠ w.heap.size + 1 + 1; omega)).trans HR1.out, ?_, HB.out.setCell (p := ⟨w.heap.size + 1 + 1, N + k, none⟩) (by show w.heap.size ≤ w.heap.size + 1 + 1; omega) _⟩
          rw [heap_setCell_same _ _ _ _ _ _ HR2.out, HN.out, padB_set ln k hlt]))
        have x2 := (row_cell HR2.out (N + k)).trans (vals_get (l := padB ln k) (by rw [padB_len ln k (by omega)]; omega))
        have x3 := row_free HR2.out (N + k)
        generalize nth (padB ln k) (N + k) = old at x2
        have hl : ln ≤ 1152921504606846976 := hm
        rcases (show k = 0 ∨ k = 1 ∨ k = 2 ∨ k = 3 ∨ k = 4 ∨ k = 5 ∨ k = 6 ∨ k = 7 by omega) with rfl | rfl | rfl | rfl | rfl | rfl | rfl | rfl
        · simp only [Nat.add_zero] at x2 x3 HSTEP
          go_wp2_with fail
          go_roundw
          case rel => exact ⟨1, by decide, by go_num, (HSTEP.out _ (by simp [nth, be8]; try omega)).out.1, (HSTEP.out _ (by simp [nth, be8]; try omega)).out.2.1, (HSTEP.out _ (by simp [nth, be8]; try omega)).out.2.2.1, (HSTEP.out _ (by simp [nth, be8]; try omega)).out.2.2.2⟩
          case measure => simp [intOf]
        · go_wp2_with fail
          go_roundw
          case rel => exact ⟨2, by decide, by go_num, (HSTEP.out _ (by simp [nth, be8]; try omega)).out.1, (HSTEP.out _ (by simp [nth, be8]; try omega)).out.2.1, (HSTEP.out _ (by simp [nth, be8]; try omega)).out.2.2.1, (HSTEP.out _ (by simp [nth, be8]; try omega)).out.2.2.2⟩
          case measure => simp [intOf]
        · go_wp2_with fail
          go_roundw
          case rel => exact ⟨3, by decide, by go_num, (HSTEP.out _ (by simp [nth, be8]; try omega)).out.1, (HSTEP.out _ (by simp [nth, be8]; try omega)).out.2.1, (HSTEP.out _ (by simp [nth, be8]; try omega)).out.2.2.1, (HSTEP.out _ (by simp [nth, be8]; try omega)).out.2.2.2⟩
          case measure => simp [intOf]
        · go_wp2_with fail
          go_roundw
          case rel => exact ⟨4, by decide, by go_num, (HSTEP.out _ (by simp [nth, be8]; try omega)).out.1, (HSTEP.out _ (by simp [nth, be8]; try omega)).out.2.1, (HSTEP.out _ (by simp [nth, be8]; try omega)).out.2.2.1, (HSTEP.out _ (by simp [nth, be8]; try omega)).out.2.2.2⟩
          case measure => simp [intOf]
        · go_wp2_with fail
          go_roundw
          case rel => exact ⟨5, by decide, by go_num, (HSTEP.out _ (by simp [nth, be8]; try omega)).out.1, (HSTEP.out _ (by simp [nth, be8]; try omega)).out.2.1, (HSTEP.out _ (by simp [nth, be8]; try omega)).out.2.2.1, (HSTEP.out _ (by simp [nth, be8]; try omega)).out.2.2.2⟩
          case measure => simp [intOf]
        · go_wp2_with fail
          go_roundw
          case rel => exact ⟨6, by decide, by go_num, (HSTEP.out _ (by simp [nth, be8]; try omega)).out.1, (HSTEP.out _ (by simp [nth, be8]; try omega)).out.2.1, (HSTEP.out _ (by simp [nth, be8]; try omega)).out.2.2.1, (HSTEP.out _ (by simp [nth, be8]; try omega)).out.2.2.2⟩
          case measure => simp [intOf]
        · go_wp2_with fail
          go_roundw
          case rel => exact ⟨7, by decide, by go_num, (HSTEP.out _ (by simp [nth, be8]; try omega)).out.1, (HSTEP.out _ (by simp [nth, be8]; try omega)).out.2.1, (HSTEP.out _ (by simp [nth, be8]; try omega)).out.2.2.1, (HSTEP.out _ (by simp [nth, be8]; try omega)).out.2.2.2⟩
          case measure => simp [intOf]
        · go_wp2_with fail
          go_roundw
          case rel => exact ⟨8, by decide, by go_num, (HSTEP.out _ (by simp [nth, be8]; try omega)).out.1, (HSTEP.out _ (by simp [nth, be8]; try omega)).out.2.1, (HSTEP.out _ (by simp [nth, be8]; try omega)).out.2.2.1, (HSTEP.out _ (by simp [nth, be8]; try omega)).out.2.2.2⟩
          case measure => simp [intOf]
      · obtain rfl : k = 8 := by omega
        clear hlt hk
        have HPL := Lib.hid (show (padT m).length = N + 8 by simp [padT, be8, HN.out, HLN.out]; try omega)
        have HPB := Lib.hid (show BytesIn wr (some ⟨w.heap.size + 1 + 1, 0, none⟩) (padT m) from BytesIn.vals 0 HR2.out (by
          rw [List.drop_zero, padB, List.take_of_length_le (show (be8 (8 * (ln : Int))).length ≤ 8 from Nat.le_refl 8), HLN.out]
          exact List.take_left))
        have HHA := Lib.hid (show HashAt wr (w.heap.size + 1) m ln from ⟨bk, HIB.out, by rw [← HSE.out, ← HU.out]; exact HR1.out⟩)
        have HTB := Lib.hid (HTAB.out.under HB.out HTAB.out.1)
        have HWS := Lib.hid (HTAB.out.1)
        clear HIB HTAB HU HST HROW HSE HR1
        have g0 : 0 ≤ (N : Int) + 8 := by omega
        have g1 : (N : Int) + 8 ≤ 128 := by omega
        have g2 : ((N : Int) + 8).toNat = N + 8 := by omega
        go_wp2_with first
          | (go_at_call 13; refine (write_any (w.heap.size + 1) (some ⟨w.heap.size + 1 + 1, 0, none⟩) m (padT m) (N + 8) 128 ln _ HPL.out (padT_byt m) HPB.out (by omega) (fun h => absurd h (by simp)) (fun a ha => by cases ha; show w.heap.size + 1 + 1 ≠ w.heap.size + 1; omega) (by have := HWS.out; omega) HHA.out HTB.out (by omega) (by omega)).mono ?_; rintro e w5 ⟨rfl, hg5, hh5⟩; have HG5 := Lib.hid hg5; have HH5 := Lib.hid hh5; clear hg5 hh5)
          | ((with_reducible refine guard_list ?_); (refine held_alloc 28 rfl ?_); refine wpl_alloc rfl 28 rfl (.agg (vals (zer 32))) (vals (zer 32)) rfl (fun w => by kernel_rfl) ?_)
        obtain ⟨bk5, hib5, hr5⟩ := HH5.out
        rw [padT_pad] at hr5 hib5
        obtain ⟨sp, hsp⟩ : ∃ sp, sp = stN (padL m) ((padL m).length / 64) := ⟨_, rfl⟩
        have HSPL := Lib.hid (show sp.length = 8 by rw [hsp]; exact stN_len _ _)
        have HSH := Lib.hid (show shaL m = outL sp by rw [shaL, hsp])
        rw [← hsp] at hr5
        generalize (((padL m).length % 64 : Nat) : Int) = u5 at hr5
        generalize ((ln + (N + 8) : Nat) : Int) = z5 at hr5
        have HR1 := Lib.hid hr5
        have HB5 := Lib.hid hib5.1
        have HR0' := Lib.hid ((HG5.out.block w.heap.size (row_lt HR0.out) (by intro e; injection e with e; omega)).trans HR0.out)
        have HBW := Lib.hid (HB.out.grown HG5.out HB.out.size (fun k hk => by cases hk; omega))
        clear hr5 hib5 hsp HH5 HG5 HHA HTB HPB HPL HR0 HR2 HB HN HLN g0 g1 g2 hN64 hm
        have HA := Lib.hid ((Below.refl w5.heap.size w5).alloc (Nat.le_refl _) (.cells (vals (zer 32)) 28))
        have HO1 := Lib.hid (show (w5.alloc (.cells (vals (zer 32)) 28)).heap[w5.heap.size]? = some (.cells (vals (outP sp 0)) 28 (0, 0)) from heap_alloc_new w5 _)
        have HOLT := Lib.hid (show w.heap.size < w5.heap.size ∧ w.heap.size + 1 < w5.heap.size from ⟨row_lt HR0'.out, row_lt HR1.out⟩)
        replace HR0' := Lib.hid (row_call HA.out HR0'.out)
        replace HR1 := Lib.hid (row_call HA.out HR1.out)
        replace HBW := Lib.hid (below_call HA.out HBW.out)
        obtain ⟨O, hO⟩ : ∃ O, O = w5.heap.size := ⟨_, rfl⟩
        rw [← hO] at HO1 HOLT ⊢
        clear hO HA
        generalize w5.alloc (.cells (vals (zer 32)) 28) = w6 at *
        go_loopw [45] (fun i wr => ∃ k : Nat, k ≤ 32 ∧ i = .int .i64 (k : Nat) ∧ wr.heap[w.heap.size]? = some (.cells (vals (zer 32)) 28 (0, 0)) ∧ wr.heap[w.heap.size + 1]? = some (.cells (hashC sp bk5 u5 z5) 56 (0, 0)) ∧ wr.heap[O]? = some (.cells (vals (outP sp k)) 28 (0, 0)) ∧ Below w.heap.size w wr) (fun i _ => 32 - (intOf i).toNat)
        case atStart => exact ⟨0, by omega, rfl, HR0'.out, HR1.out, HO1.out, HBW.out⟩
        case round =>
          clear HR0' HR1 HO1 HBW
          obtain ⟨k, hk, rfl, hr0, hr1, hr2, hb⟩ := hrel
          have HR0 := Lib.hid hr0
          have HR1 := Lib.hid hr1
          have HR2 := Lib.hid hr2
          have HB := Lib.hid hb
          clear hr0 hr1 hr2 hb
          by_cases hlt : k < 32
          · have HSTEP := Lib.hid (show ∀ x : Int, x = outB sp k → Hid ((wr.setCell ⟨O, k, none⟩ (.int .u8 x)).heap[w.heap.size]? = some (.cells (vals (zer 32)) 28 (0, 0)) ∧ (wr.setCell ⟨O, k, none⟩ (.int .u8 x)).heap[w.heap.size + 1]? = some (.cells (hashC sp bk5 u5 z5) 56 (0, 0)) ∧ (wr.setCell ⟨O, k, none⟩ (.int .u8 x)).heap[O]? = some (.cells (vals (outP sp (k + 1))) 28 (0, 0)) ∧ Below w.heap.size w (wr.setCell ⟨O, k, none⟩ (.int .u8 x))) from fun x hx => Lib.hid (by
              subst hx
              have h1 := HOLT.out
              refine ⟨(heap_setCell_other wr ⟨O, k, none⟩ _ _ (by show w.heap.size ≠ O; omega)).trans HR0.out, (heap_setCell_other wr ⟨O, k, none⟩ _ _ (by show w.heap.size + 1 ≠ O; omega)).trans HR1.out, ?_, HB.out.setCell (p := ⟨O, k, none⟩) (by show w.heap.size ≤ O; omega) _⟩
              rw [heap_setCell_same _ _ _ _ _ _ HR2.out, outP_set sp k hlt]))
            have y1 := (row_cell HR1.out (k / 4)).trans (hash_st HSPL.out (by omega))
            have x2 := (row_cell HR2.out k).trans (vals_get (l := outP sp k) (by rw [outP_len sp k (by omega)]; omega))
            have x3 := row_free HR2.out k
            generalize nth (outP sp k) k = old at x2
            obtain ⟨q, hq⟩ : ∃ q, q = k / 4 := ⟨_, rfl⟩
            obtain ⟨r, hr⟩ : ∃ r, r = k % 4 := ⟨_, rfl⟩
            have q3 : (q : Int) < 8 := by omega
            have q4 : q < 8 := by omega
            have q0 : 0 ≤ (q : Int) := by omega
            have q6 : (k : Int) < 32 := by omega
            have q7 : 0 ≤ (k : Int) := by omega
            have HK := Lib.hid hlt
            have HOUT := Lib.hid (show outB sp k = nth sp q / 2 ^ (24 - 8 * r) % 256 by rw [outB, hq, hr])
            rw [← hq] at y1
            have HQ := Lib.hid hq
            have HR := Lib.hid hr
            have hr4 : r = 0 ∨ r = 1 ∨ r = 2 ∨ r = 3 := by omega
            clear hq hr hlt
            rcases hr4 with rfl | rfl | rfl | rfl
            · go_wp2_with first
                | ((with_reducible refine guard_list ?_); (refine held_bin .quo _ _ _ _ rfl ?_); refine wpl_quo rfl _ _ _ _ rfl k 4 rfl rfl (by decide) (by have := HK.out; omega) ?_; rw [← HQ.out])
                | ((with_reducible refine guard_list ?_); (refine held_bin .rem _ _ _ _ rfl ?_); refine wpl_rem rfl _ _ _ _ rfl k 4 rfl rfl (by decide) ?_; rw [← HR.out])
              go_roundw
              case rel => exact ⟨k + 1, HK.out, by go_num, (HSTEP.out _ (by rw [HOUT.out]; try rfl; try simp)).out.1, (HSTEP.out _ (by rw [HOUT.out]; try rfl; try simp)).out.2.1, (HSTEP.out _ (by rw [HOUT.out]; try rfl; try simp)).out.2.2.1, (HSTEP.out _ (by rw [HOUT.out]; try rfl; try simp)).out.2.2.2⟩
              case measure => have := HK.out; simp [intOf]; omega
            · go_wp2_with first
                | ((with_reducible refine guard_list ?_); (refine held_bin .quo _ _ _ _ rfl ?_); refine wpl_quo rfl _ _ _ _ rfl k 4 rfl rfl (by decide) (by have := HK.out; omega) ?_; rw [← HQ.out])
                | ((with_reducible refine guard_list ?_); (refine held_bin .rem _ _ _ _ rfl ?_); refine wpl_rem rfl _ _ _ _ rfl k 4 rfl rfl (by decide) ?_; rw [← HR.out])
              go_roundw
              case rel => exact ⟨k + 1, HK.out, by go_num, (HSTEP.out _ (by rw [HOUT.out]; try rfl; try simp)).out.1, (HSTEP.out _ (by rw [HOUT.out]; try rfl; try simp)).out.2.1, (HSTEP.out _ (by rw [HOUT.out]; try rfl; try simp)).out.2.2.1, (HSTEP.out _ (by rw [HOUT.out]; try rfl; try simp)).out.2.2.2⟩
              case measure => have := HK.out; simp [intOf]; omega
            · go_wp2_with first
                | ((with_reducible refine guard_list ?_); (refine held_bin .quo _ _ _ _ rfl ?_); refine wpl_quo rfl _ _ _ _ rfl k 4 rfl rfl (by decide) (by have := HK.out; omega) ?_; rw [← HQ.out])
                | ((with_reducible refine guard_list ?_); (refine held_bin .rem _ _ _ _ rfl ?_); refine wpl_rem rfl _ _ _ _ rfl k 4 rfl rfl (by decide) ?_; rw [← HR.out])
              go_roundw
              case rel => exact ⟨k + 1, HK.out, by go_num, (HSTEP.out _ (by rw [HOUT.out]; try rfl; try simp)).out.1, (HSTEP.out _ (by rw [HOUT.out]; try rfl; try simp)).out.2.1, (HSTEP.out _ (by rw [HOUT.out]; try rfl; try simp)).out.2.2.1, (HSTEP.out _ (by rw [HOUT.out]; try rfl; try simp)).out.2.2.2⟩
              case measure => have := HK.out; simp [intOf]; omega
            · go_wp2_with first
                | ((with_reducible refine guard_list ?_); (refine held_bin .quo _ _ _ _ rfl ?_); refine wpl_quo rfl _ _ _ _ rfl k 4 rfl rfl (by decide) (by have := HK.out; omega) ?_; rw [← HQ.out])
                | ((with_reducible refine guard_list ?_); (refine held_bin .rem _ _ _ _ rfl ?_); refine wpl_rem rfl _ _ _ _ rfl k 4 rfl rfl (by decide) ?_; rw [← HR.out])
              go_roundw
              case rel => exact ⟨k + 1, HK.out, by go_num, (HSTEP.out _ (by rw [HOUT.out, show (2 : Int) ^ (24 - 8 * 3) = 1 from rfl, Int.ediv_one])).out.1, (HSTEP.out _ (by rw [HOUT.out, show (2 : Int) ^ (24 - 8 * 3) = 1 from rfl, Int.ediv_one])).out.2.1, (HSTEP.out _ (by rw [HOUT.out, show (2 : Int) ^ (24 - 8 * 3) = 1 from rfl, Int.ediv_one])).out.2.2.1, (HSTEP.out _ (by rw [HOUT.out, show (2 : Int) ^ (24 - 8 * 3) = 1 from rfl, Int.ediv_one])).out.2.2.2⟩
              case measure => have := HK.out; simp [intOf]; omega
          · obtain rfl : k = 32 := by omega
            have HOP := Lib.hid (show outP sp 32 = outL sp from List.append_nil _)
            have HOL := Lib.hid (show (vals (outL sp)).size = 32 by simp [vals, outL])
            clear hlt hk
            replace HR2 := Lib.hid (show wr.heap[O]? = some (.cells (vals (outL sp)) 28 (0, 0)) by have h1 := HR2.out; rwa [HOP.out] at h1)
            go_wp2_with first
              | ((with_reducible refine guard_list ?_); (refine held_load 28 _ rfl ?_); refine wpl_ld_at2 rfl _ _ rfl ⟨O, 0, none⟩ rfl (vals (outL sp)) 32 tOut HOL.out (fun j v hv => by rw [add_lit]; exact (row_cell HR2.out j).trans hv) ?_)
              | ((with_reducible refine guard_list ?_); (refine held_st 28 _ _ rfl ?_); refine st_row rfl _ _ _ rfl w.heap.size (vals (outL sp)) rfl rfl _ _ HR0.out 32 tOut HOL.out rfl (vals_one _) ?_)
            refine ret_row rfl _ _ _ rfl (row_put HR0.out) 32 tOut HOL.out rfl ?_
            exact ⟨by rw [HSH.out], HB.out.grown (grown_setRow (g := w.heap.size) (vals (outL sp)) (grown_of_below (Below.refl wr.heap.size wr) (some w.heap.size))) (Below.size HB.out) (fun k hk => by cases hk; exact Nat.le_refl _)⟩
end Go.Proofs.YtemkpihfenokmaaDoor
