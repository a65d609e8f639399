/- trystref22.Bucket. Condition: a number of buckets that an int holds. -/
import Derived.Test.YtemkpihfenokmaaDoorOpsX
import Derived.Test.YtemkpihfenokmaaDoorTxt
import Derived.Test.YtemkpihfenokmaaDoorShaK
import Derived.Test.YtemkpihfenokmaaDoorOct
import Derived.Lib.SlBytesConst
namespace Go.Proofs.YtemkpihfenokmaaDoor
open Go.RowKit
def txBucket : List Int := [116, 114, 121, 115, 116, 32, 98, 117, 99, 107, 101, 116]
def shaB (l : List Int) : List Int := shaL (txBucket ++ l)
theorem shaL_len (m : List Int) : (shaL m).length = 32 := by simp [shaL, outL]
theorem shaL_byt (m : List Int) : Byt (shaL m) := by
  intro x hx
  obtain ⟨i, _, rfl⟩ := List.mem_map.1 hx
  simp only [outB]
  omega
theorem tx_byt {l : List Int} (h : Byt l) : Byt (txBucket ++ l) := by
  intro x hx
  rcases List.mem_append.1 hx with hx | hx
  · simp only [txBucket, List.mem_cons, List.not_mem_nil, or_false] at hx
    omega
  · exact h x hx
/-- The bucket of a key, or the error. -/
def bucketL (l : List Int) (k : Int) : Int × Int := if k < 2 ∨ 64 < k then (0, 201) else (1 + num ((shaB l).take 8) % (k - 1), 0)
theorem tKeyB : RowT Tryd.prog 23 32 := ⟨_, Tryd.underlying23, rfl, by kernel_rfl⟩
def BkU (B : Nat) (l : List Int) (i : Nat) (x : Value) (w : World) : Prop :=
  match i with
  | 0 => Bts w B x txBucket
  | 1 => x = .agg (vals l)
  | 2 => Bts w B x l
  | 3 => Bts w B x (txBucket ++ l)
  | 4 => x = .agg (vals (shaB l))
  | 5 => ∃ g, x = .pointer (some ⟨g, 0, none⟩) ∧ B ≤ g ∧ w.heap[g]? = some (.cells (vals (zer 32)) 28 (0, 0))
  | _ => True
theorem BkU.stay {B : Nat} {l : List Int} (j : Nat) (x : Value) (w1 w2 : World) (h : BkU B l j x w1) (hb : Below w1.heap.size w1 w2) : BkU B l j x w2 := by
  match j, h with
  | 0, h => exact h.under hb
  | 1, h => exact h
  | 2, h => exact h.under hb
  | 3, h => exact h.under hb
  | 4, h => exact h
  | 5, ⟨g, h1, h2, h3⟩ => exact ⟨g, h1, h2, row_call hb h3⟩
  | _ + 6, _ => trivial
section
variable {o : Oper} {w : World} {a : Act} {Q : Exit → Act → World → Prop} {ops : Array Oper} {rest : List Oper} {P : Program}
theorem held_conv {P : Program} {ops : Array Oper} {rest : List Oper} {o : Oper} {Q : Exit → Act → World → Prop} {a : Act} {w : World} (s t : TypeId) (x : Operand) (_ : o.op = .convert s t x) (h : Held (wpList P ops Q (o :: rest) a w)) : wpList P ops Q (o :: rest) a w := h
/-- []byte("constant"): the row just laid is marked. -/
theorem wpl_conv (hgd : o.guard = none) (t e : TypeId) (x : Operand) (ho : o.op = .convert t t x) (C : Array Value) (n c g : Nat) (hx : a.eval x = .slice (some ⟨g, 0, none⟩) n c) (hg : g = w.heap.size) (ht : P.underlying t = some (.slice e)) (he : P.underlying e = some (.int .u8))
    (h : wpList P ops Q rest (a.put o.dst (.slice (some ⟨g, 0, none⟩) n c)) (w.alloc (.cells C e (C.size, C.size + 1)))) : wpList P ops Q (o :: rest) a (w.alloc (.cells C e)) := by
  subst hg
  refine wpList_step fun K hK => if_always hgd ?_
  unfold Oper.wp
  rw [show (execOp a.eval o).run P (w.alloc (.cells C e)) = .ok (.value (.slice (some ⟨w.heap.size, 0, none⟩) n c)) (w.alloc (.cells C e (C.size, C.size + 1))) from ?_, Oper.upon_value]
  · exact hK _ _ h
  · unfold execOp; rw [ho]
    show ((do let q ← convert t t (a.eval x); pure (Next.value q)) : Sem Next).run P _ = _
    rw [hx, Sem.run_bind, Lib.run_convert_bytes_const w t e C n c ht he]
    rfl
theorem marked_in {w : World} {g : Nat} {l : List Int} {t : TypeId} {fr : Nat × Nat} (h : w.heap[g]? = some (.cells (vals l) t fr)) : BytesIn w (some ⟨g, 0, none⟩) l := fun i hi => by
  refine ⟨_, rfl, ?_, ?_⟩
  · rcases Nat.lt_or_ge g w.heap.size with h1 | h1
    · exact h1
    · rw [Array.getElem?_eq_none h1] at h; cases h
  · rw [add_lit, cell_of_row w g i _ t fr h]
    exact vals_get hi
theorem wpl_remZ (hgd : o.guard = none) (t t' : TypeId) (x y : Operand) (ho : o.op = .binOp .rem t x y t') (κ : IntKind) (u v : Int) (hx : a.eval x = .int κ u) (hy : a.eval y = .int κ v) (hu : 0 ≤ u) (hv : 0 < v) (h : wpList P ops Q rest (a.put o.dst (.int κ (u % v))) w) : wpList P ops Q (o :: rest) a w := by
  refine wpList_step fun K hK => if_always hgd (wp_val (.int κ (u % v)) ?_ (hK _ _ h))
  unfold execOp; rw [ho]
  have e2 : u.tmod v = u % v := Int.tmod_eq_emod_of_nonneg hu
  simp only [hx, hy, eqGuard_rem, binOp_rem, Op.intDiv, Sem.run_bind, Sem.run_pure, Result.andThen_ok, e2]
  rw [if_neg (by omega)]
  rfl
end
set_option maxHeartbeats 4000000 in
set_option maxRecDepth 100000 in
theorem bucketR_any (l : List Int) (k : Int) (w : World) (hl : l.length = 32) (hby : Byt l) :
    Calls Tryd.prog 5 #[.agg (vals l), .int .i64 k] w (fun e w' => e = .returned (.tuple #[.int .i64 (bucketL l k).1, .int .i64 (bucketL l k).2]) ∧ Below w.heap.size w w') := by
  have HL := Lib.hid hl
  have HBY := Lib.hid hby
  have HR := Lib.hid (show (w.alloc (.cells (vals l) 23)).heap[w.heap.size]? = some (.cells (vals l) 23 (0, 0)) from heap_alloc_new w _)
  have HA := Lib.hid ((Below.refl w.heap.size w).alloc (Nat.le_refl _) (.cells (vals l) 23))
  clear hl hby
  by_cases hk : k < 2
  · have HV := Lib.hid (show bucketL l k = (0, 201) by rw [bucketL, if_pos (.inl hk)])
    rw [HV.out]
    go_enter Tryd.func5, Tryd.ntmps5
    go_wp2_with fail
    exact ⟨rfl, .tuple #[.int .i64 0, .int .i64 201], by kernel_rfl, rfl, HA.out⟩
  by_cases hk2 : 64 < k
  · have HV := Lib.hid (show bucketL l k = (0, 201) by rw [bucketL, if_pos (.inr hk2)])
    rw [HV.out]
    go_enter Tryd.func5, Tryd.ntmps5
    go_wp2_with fail
    exact ⟨rfl, .tuple #[.int .i64 0, .int .i64 201], by kernel_rfl, rfl, HA.out⟩
  have HV := Lib.hid (show bucketL l k = (1 + num ((shaB l).take 8) % (k - 1), 0) by rw [bucketL, if_neg (by omega)])
  rw [HV.out]
  go_enter Tryd.func5, Tryd.ntmps5
  go_wp2_with fail
  generalize w.alloc (.cells (vals l) 23) = w1 at *
  refine hide_frame fun t0 HT => ?_
  have HS : t0.size = 36 := by rw [HT]; rfl
  have h1 : t0[1]? = some (.int .i64 k) := by rw [HT]; rfl
  have h2 : t0[2]? = some (.pointer (some ⟨w.heap.size, 0, none⟩)) := by rw [HT]; rfl
  refine wp_region_own 6 (fun i => [15, 16, 17, 18, 19, 6].getD i 0) (BkU w.heap.size l) (by kernel_rfl) (by kernel_rfl) (slots_apart (by kernel_rfl)) (slots_lie (by rw [HS]; kernel_rfl)) BkU.stay ?_ ?_
  · intro i o hi ho
    rcases (show i = 0 ∨ i = 1 ∨ i = 2 ∨ i = 3 ∨ i = 4 ∨ i = 5 by omega) with rfl | rfl | rfl | rfl | rfl | rfl
    · obtain rfl := Option.some.inj ho
      refine ⟨rfl, fun v a wr hb hold hin K hK => ?_⟩
      refine if_always rfl (wp_fn1 _ _ _ _ rfl rfl (by intro args w; kernel_rfl) ((text_any _ wr (by decide)).mono fun e w' hr => ?_))
      obtain ⟨hb2, x, he, hx⟩ := hr
      exact ⟨x, he, hK x w' ((show Bts w' wr.heap.size x txBucket from hx).low (Nat.le_trans HA.out.size hb.size)) hb2⟩
    · obtain rfl := Option.some.inj ho
      refine ⟨rfl, fun v a wr hb hold hin K hK => ?_⟩
      refine if_always rfl ?_
      refine op_val (V := (· = .agg (vals l))) (.agg (vals l)) rfl ?_ rfl fun x w' hx hb' => hK x w' hx hb'
      have hrow := row_call hb HR.out
      have e := eval_tmp ((hold 2 (slots_not (by kernel_rfl))).trans h2)
      unfold execOp
      show ((do let z ← Instr.loadAt 23 (a.eval (.tmp 2)); pure (Next.value z)) : Sem Next).run Tryd.prog wr = _
      rw [e, Sem.run_bind, run_load_at tKeyB (show (vals l).size = 32 by rw [vals_size, HL.out]) (fun j v hv => by rw [add_lit]; exact (row_cell hrow j).trans hv)]
      rfl
    · obtain rfl := Option.some.inj ho
      refine ⟨rfl, fun v a wr hb hold hin K hK => ?_⟩
      obtain ⟨i1, i2⟩ := hin 1 (by omega) rfl
      have i2 : v 1 = .agg (vals l) := i2
      refine if_always rfl (wp_fn1 _ _ _ _ rfl (eval_tmp (i1.trans (congrArg some i2))) (by intro args w; kernel_rfl) ((keyBytes_any l wr HL.out).mono fun e w' hr => ?_))
      obtain ⟨hb2, x, he, hx⟩ := hr
      exact ⟨x, he, hK x w' (hx.low (Nat.le_trans HA.out.size hb.size)) hb2⟩
    · obtain rfl := Option.some.inj ho
      refine ⟨rfl, fun v a wr hb hold hin K hK => ?_⟩
      obtain ⟨i1, i2⟩ := hin 0 (by omega) rfl
      obtain ⟨j1, j2⟩ := hin 2 (by omega) rfl
      obtain ⟨p1, c1, e1, b1, n1, _⟩ := Bts.open i2
      obtain ⟨p2, c2, e2, b2, n2, _⟩ := Bts.open j2
      refine if_always rfl (wp_fn2 _ _ _ _ _ _ rfl (eval_tmp (i1.trans (congrArg some e1))) (eval_tmp (j1.trans (congrArg some e2))) (by intro args w; kernel_rfl) ((two_any p1 p2 txBucket l _ _ c1 c2 wr rfl rfl b1 b2 n1 n2 (by rw [HL.out]; decide)).mono fun e w' hr => ?_))
      obtain ⟨hb2, x, he, hx⟩ := hr
      exact ⟨x, he, hK x w' (hx.low (Nat.le_trans HA.out.size hb.size)) hb2⟩
    · obtain rfl := Option.some.inj ho
      refine ⟨rfl, fun v a wr hb hold hin K hK => ?_⟩
      obtain ⟨i1, i2⟩ := hin 3 (by omega) rfl
      obtain ⟨p1, c1, e1, b1, n1, _⟩ := Bts.open i2
      refine if_always rfl (wp_fn1 _ _ _ _ rfl (eval_tmp (i1.trans (congrArg some e1))) (by intro args w; kernel_rfl) ((sumR_any p1 (txBucket ++ l) _ c1 wr rfl b1 (tx_byt HBY.out) (by rw [List.length_append, HL.out]; decide)).mono fun e w' hr => ?_))
      obtain ⟨rfl, hb2⟩ := hr
      exact ⟨_, rfl, hK _ w' rfl hb2⟩
    · obtain rfl := Option.some.inj ho
      refine ⟨rfl, fun v a wr hb hold hin K hK => ?_⟩
      refine if_always rfl (op_new 28 rfl rfl (.agg (vals (zer 32))) (vals (zer 32)) rfl (fun w => by kernel_rfl) fun x w' hx hb' => ?_)
      obtain ⟨g, e, hg, hr⟩ := hx
      exact hK x w' ⟨g, e, Nat.le_trans (Nat.le_trans HA.out.size hb.size) hg, hr⟩ hb'
  · intro v t1 wr hs hold hin hb hu
    replace HS := hs.trans HS
    have q4 : t1[19]? = some (v 4) := hin 4 (by omega)
    have q5 : t1[6]? = some (v 5) := hin 5 (by omega)
    have u4 : v 4 = .agg (vals (shaB l)) := hu 4 (by omega)
    obtain ⟨g, u5, hg, hrow⟩ := hu 5 (by omega)
    rw [u4] at q4
    rw [u5] at q5
    have q1 : t1[1]? = some (.int .i64 k) := (hold 1 (slots_not (by kernel_rfl))).trans h1
    have HROW := Lib.hid hrow
    have HB := Lib.hid (below_call hb HA.out)
    have HG := Lib.hid hg
    clear hold hin hu hs hrow hb hg u4 u5
    obtain ⟨F, E0, hf⟩ := wash HS
    have g1 := hf 1 _ q1
    have g2 := hf 19 _ q4
    have g3 := hf 6 _ q5
    clear hf
    simp only [List.drop_succ_cons, List.drop_zero]
    rw [E0.trans (show _ = #[F 0, F 1, F 2, F 3, F 4, F 5, F 6, F 7, F 8, F 9, F 10, F 11, F 12, F 13, F 14, F 15, F 16, F 17, F 18, F 19, F 20, F 21, F 22, F 23, F 24, F 25, F 26, F 27, F 28, F 29, F 30, F 31, F 32, F 33, F 34, F 35] from by kernel_rfl), g1, g2, g3]
    clear g1 g2 g3 E0 q1 q4 q5 HS HT h1 h2 t1 t0 HA HR
    have HH := Lib.hid (show (vals (shaB l)).size = 32 by rw [vals_size]; exact shaL_len _)
    go_wp2_with ((with_reducible refine guard_list ?_); (refine held_st 28 _ _ rfl ?_); refine st_row rfl _ _ _ rfl g (vals (shaB l)) rfl rfl _ _ HROW.out 32 tOut HH.out rfl (vals_one _) ?_)
    obtain ⟨H, hH⟩ : ∃ H, H = shaB l := ⟨_, rfl⟩
    have HHB := Lib.hid (show Byt H by rw [hH]; exact shaL_byt _)
    have HHL := Lib.hid (show H.length = 32 by rw [hH]; exact shaL_len _)
    have HHE := Lib.hid hH
    have HR2 := Lib.hid (row_put (cs' := vals H) HROW.out)
    have HB2 := Lib.hid (HB.out.grown (grown_setRow (g := g) (vals H) (grown_of_below (Below.refl wr.heap.size wr) (some g))) (Below.size HB.out) (fun k hk => by cases hk; exact HG.out))
    rw [← hH]
    clear hH HROW HB HH HV
    generalize wr.setRow g (vals H) = w3 at *
    go_loopw [7, 8] (fun r i wr => ∃ j : Nat, j ≤ 8 ∧ i = .int .i64 ((j : Int) - 1) ∧ r = .int .i64 (num ((H.take 8).drop j) % (k - 1)) ∧ wr.heap[g]? = some (.cells (vals H) 28 (0, 0)) ∧ Below w.heap.size w wr) (fun _ i _ => (intOf i + 1).toNat)
    case atStart => exact ⟨8, by omega, rfl, by rw [List.drop_of_length_le (by rw [List.length_take]; omega)]; simp [num], HR2.out, HB2.out⟩
    case round =>
      clear HR2 HB2
      obtain ⟨j, hj, rfl, rfl, hr, hb⟩ := hrel
      have HR := Lib.hid hr
      have HB := Lib.hid hb
      clear hr hb
      cases j with
      | zero =>
        rw [List.drop_zero]
        have HRZ := Lib.hid (show num ((shaB l).take 8) % (k - 1) = num (H.take 8) % (k - 1) by rw [HHE.out])
        have z1 : 0 ≤ num (H.take 8) % (k - 1) := Int.emod_nonneg _ (by omega)
        have z2 : num (H.take 8) % (k - 1) < 63 := by have := Int.emod_lt_of_pos (num (H.take 8)) (show 0 < k - 1 by omega); omega
        generalize num (H.take 8) % (k - 1) = R at *
        have ew : IntKind.i64.wrap (1 + R) = 1 + R := IntWalk.i64_in _ (by omega)
        go_wp2_with fail
        exact ⟨rfl, .tuple #[.int .i64 (1 + R), .int .i64 0], by kernel_rfl, by rw [HRZ.out], HB.out⟩
      | succ j =>
        have hx := HHB.out.nth j
        have x1 := (row_cell HR.out j).trans (vals_get (l := H) (by rw [HHL.out]; omega))
        have HNX := Lib.hid (show num ((H.take 8).drop j) = nth H j + 256 * num ((H.take 8).drop (j + 1)) by
          rw [List.drop_eq_getElem_cons (by rw [List.length_take, HHL.out]; omega)]
          show _ + _ = _
          congr 1
          simp [nth, List.getD_eq_getElem?_getD, List.getElem?_eq_getElem (show j < H.length by rw [HHL.out]; omega)])
        have hnn := num_bound _ ((HHB.out.take 8).drop (j + 1))
        generalize num ((H.take 8).drop (j + 1)) = X at *
        generalize nth H j = x at *
        have hX : 0 ≤ X := hnn.1
        clear hnn
        obtain ⟨R, hR⟩ : ∃ R, R = X % (k - 1) := ⟨_, rfl⟩
        have hR1 : 0 ≤ R := by rw [hR]; exact Int.emod_nonneg _ (by omega)
        have hR2 : R < 63 := by have := Int.emod_lt_of_pos X (show 0 < k - 1 by omega); omega
        rw [← hR]
        have HRE := Lib.hid (show (256 * R + x) % (k - 1) = (x + 256 * X) % (k - 1) by
          rw [hR, Int.add_comm x, Int.add_emod, Int.mul_emod, Int.emod_emod_of_dvd _ (Int.dvd_refl _), ← Int.mul_emod, ← Int.add_emod])
        clear hR
        have ej : ((j + 1 : Nat) : Int) - 1 = j := by omega
        rw [ej]
        have q0 : 0 ≤ (j : Int) := by omega
        have q1 : (j : Int) < 32 := by omega
        have q2 : j < 32 := by omega
        have p1 : 0 ≤ 256 * R + x := by omega
        have p2 : 0 < k - 1 := by omega
        go_wp2_with ((with_reducible refine guard_list ?_); (refine held_bin .rem _ _ _ _ rfl ?_); refine wpl_remZ rfl _ _ _ _ rfl .i64 (256 * R + x) (k - 1) rfl rfl p1 p2 ?_)
        go_roundw
        case rel => exact ⟨j, by omega, rfl, by rw [HRE.out, HNX.out], HR.out, HB.out⟩
        case measure => simp [intOf]
theorem sum2_any (p q : Option Addr) (l m : List Int) (c d : Nat) (w : World) (h : BytesIn w p l) (h2 : BytesIn w q m) (hp : p = none → c = 0) (hq : q = none → d = 0) (hb : Byt l) (hb2 : Byt m) (hc : l.length ≤ c) (hd : m.length ≤ d) (hpa : ∀ a, p = some a → a.block < w.heap.size) (hqa : ∀ a, q = some a → a.block < w.heap.size)
    (hf : Fst w) (ht : Tab w) (hm : l.length + m.length ≤ 70368744177664) :
    Calls Tryd.prog 6 #[.slice (some ⟨w.heap.size, 0, none⟩) 2 2] (w.alloc (.cells #[.slice p l.length c, .slice q m.length d] 30)) (fun e w' => e = .returned (.agg (vals (shaL (l ++ m)))) ∧ Below w.heap.size w w') := by
  have hA := (Below.refl w.heap.size w).alloc (Nat.le_refl _) (.cells #[.slice p l.length c, .slice q m.length d] 30)
  have hF : flat [(p, c, l), (q, d, m)] = l ++ m := by simp [flat]
  have h1 := sumD_any (some ⟨w.heap.size, 0, none⟩) 2 2 [(p, c, l), (q, d, m)] (w.alloc (.cells #[.slice p l.length c, .slice q m.length d] 30)) rfl
    ⟨⟨fun k r hr => by
      obtain ⟨a, e, h3, h4⟩ := lit_at w #[.slice p l.length c, .slice q m.length d] 30 k (.slice r.1 r.2.2.length r.2.1) (by
        match k, hr with
        | 0, hr => obtain rfl := Option.some.inj hr; rfl
        | 1, hr => obtain rfl := Option.some.inj hr; rfl)
      exact ⟨a, e, h3, h4⟩, fun r hr => by
      simp only [List.mem_cons, List.not_mem_nil, or_false] at hr
      rcases hr with rfl | rfl
      · exact ⟨h.keep hA, hp⟩
      · exact ⟨h2.keep hA, hq⟩⟩, fun r hr => by
      simp only [List.mem_cons, List.not_mem_nil, or_false] at hr
      rcases hr with rfl | rfl
      · exact ⟨hc, by show l.length ≤ _; omega, hb, fun a ha => Nat.lt_of_lt_of_le (hpa a ha) hA.size⟩
      · exact ⟨hd, by show m.length ≤ _; omega, hb2, fun a ha => Nat.lt_of_lt_of_le (hqa a ha) hA.size⟩⟩ (hf.under hA hf.1) (ht.under hA ht.1) (by decide) (by rw [hF, List.length_append]; exact hm)
  rw [hF] at h1
  exact h1.mono fun e w' ⟨h2, h3⟩ => ⟨h2, below_call h3 hA⟩
set_option maxHeartbeats 4000000 in
set_option maxRecDepth 100000 in
theorem bucketP_any (l : List Int) (k : Int) (w : World) (hl : l.length = 32) (hby : Byt l) (hf : Fst w) (ht : Tab w) :
    Calls Tryd.prog 4 #[.agg (vals l), .int .i64 k] w (fun e w' => e = .returned (.tuple #[.int .i64 (bucketL l k).1, .int .i64 (bucketL l k).2]) ∧ Below w.heap.size w w') := by
  have HL := Lib.hid hl
  have HBY := Lib.hid hby
  have HF := Lib.hid hf
  have HT := Lib.hid ht
  have HA := Lib.hid ((Below.refl w.heap.size w).alloc (Nat.le_refl _) (.cells (vals l) 23))
  clear hl hby hf ht
  by_cases hk : k < 2
  · have HV := Lib.hid (show bucketL l k = (0, 201) by rw [bucketL, if_pos (.inl hk)])
    rw [HV.out]
    go_enter Tryd.func4, Tryd.ntmps4
    go_wp2_with fail
    exact ⟨rfl, .tuple #[.int .i64 0, .int .i64 201], by kernel_rfl, rfl, HA.out⟩
  by_cases hk2 : 64 < k
  · have HV := Lib.hid (show bucketL l k = (0, 201) by rw [bucketL, if_pos (.inr hk2)])
    rw [HV.out]
    go_enter Tryd.func4, Tryd.ntmps4
    go_wp2_with fail
    exact ⟨rfl, .tuple #[.int .i64 0, .int .i64 201], by kernel_rfl, rfl, HA.out⟩
  have HV := Lib.hid (show bucketL l k = (1 + num ((shaB l).take 8) % (k - 1), 0) by rw [bucketL, if_neg (by omega)])
  rw [HV.out]
  obtain ⟨H, hH⟩ : ∃ H, H = shaB l := ⟨_, rfl⟩
  have HHB := Lib.hid (show Byt H by rw [hH]; exact shaL_byt _)
  have HHL := Lib.hid (show H.length = 32 by rw [hH]; exact shaL_len _)
  have HHE := Lib.hid hH
  have HHS := Lib.hid (show (vals H).size = 32 by rw [vals_size, HHL.out])
  rw [← hH]
  clear hH HV
  have HZ := Lib.hid (show 0 ≤ num (H.take 8) % (k - 1) ∧ num (H.take 8) % (k - 1) < 63 ∧ 0 ≤ num (H.take 8) ∧ num (H.take 8) < 18446744073709551616 from by
    have hnb := num_bound _ (HHB.out.take 8)
    rw [List.length_take, HHL.out] at hnb
    have hnn : 0 ≤ num (H.take 8) := hnb.1
    exact ⟨Int.emod_nonneg _ (by omega), by have := Int.emod_lt_of_pos (num (H.take 8)) (show 0 < k - 1 by omega); omega, hnn, hnb.2⟩)
  go_enter Tryd.func4, Tryd.ntmps4
  go_wp2_with ((with_reducible refine guard_list ?_); (refine held_conv 30 30 _ rfl ?_))
  refine wpl_conv rfl 30 5 _ rfl (vals txBucket) 12 12 (w.heap.size + 1) rfl (by simp) Tryd.underlying30 Tryd.underlying5 ?_
  have HA2 := Lib.hid ((HA.out.alloc HA.out.size (.cells (vals txBucket) 5 ((vals txBucket).size, (vals txBucket).size + 1))))
  have HT1 := Lib.hid (show ((w.alloc (.cells (vals l) 23)).alloc (.cells (vals txBucket) 5 ((vals txBucket).size, (vals txBucket).size + 1))).heap[w.heap.size + 1]? = some (.cells (vals txBucket) 5 ((vals txBucket).size, (vals txBucket).size + 1)) from row_at (by simp))
  have HK1 := Lib.hid (show ((w.alloc (.cells (vals l) 23)).alloc (.cells (vals txBucket) 5 ((vals txBucket).size, (vals txBucket).size + 1))).heap[w.heap.size]? = some (.cells (vals l) 23 (0, 0)) from row_alloc row_new)
  have HSZ := Lib.hid (show ((w.alloc (.cells (vals l) 23)).alloc (.cells (vals txBucket) 5 ((vals txBucket).size, (vals txBucket).size + 1))).heap.size = w.heap.size + 1 + 1 by simp)
  generalize (w.alloc (.cells (vals l) 23)).alloc (.cells (vals txBucket) 5 ((vals txBucket).size, (vals txBucket).size + 1)) = w2 at *
  have hsz := HSZ.out
  have HLN := Lib.hid (show (vals txBucket).size = 12 from rfl)
  have HS2 := Lib.hid (sum2_any (some ⟨w.heap.size + 1, 0, none⟩) (some ⟨w.heap.size, 0, none⟩) txBucket l 12 32 w2 (marked_in HT1.out) (BytesIn.vals 0 HK1.out (by rw [List.drop_zero, List.take_length])) (fun h => absurd h (by simp)) (fun h => absurd h (by simp)) (by have := tx_byt HBY.out; exact fun x hx => this x (List.mem_append_left _ hx)) HBY.out (by decide) (by rw [HL.out]; decide) (fun a ha => by cases ha; show w.heap.size + 1 < _; omega) (fun a ha => by cases ha; show w.heap.size < _; omega) (HF.out.under HA2.out HF.out.1) (HT.out.under HA2.out HT.out.1) (by rw [HL.out]; decide))
  have HBE := Lib.hid (show shaL (txBucket ++ l) = H from HHE.out.symm)
  rw [HL.out, HBE.out] at HS2
  clear hsz
  obtain ⟨R, hR⟩ : ∃ R, R = num (H.take 8) % (k - 1) := ⟨_, rfl⟩
  have HRE := Lib.hid hR
  have hz := HZ.out
  rw [← hR] at hz
  have et : (num (H.take 8)).tmod (k - 1) = R := by rw [hR, Int.tmod_eq_emod_of_nonneg hz.2.2.1]
  have ew1 : IntKind.i64.wrap R = R := IntWalk.i64_in _ (by omega)
  have ew2 : IntKind.i64.wrap (1 + R) = 1 + R := IntWalk.i64_in _ (by omega)
  clear hz hR HZ
  go_wp2_with first
    | (go_at_call 6; refine HS2.out.mono ?_; rintro e w5 ⟨rfl, hb5⟩; have HB5 := Lib.hid (below_call hb5 HA2.out); clear hb5)
    | ((with_reducible refine guard_list ?_); (refine held_alloc 28 rfl ?_); refine wpl_alloc rfl 28 rfl (.agg (vals (zer 32))) (vals (zer 32)) rfl (fun w => by kernel_rfl) ?_)
    | ((with_reducible refine guard_list ?_); (refine held_st 28 _ _ rfl ?_); refine st_new rfl _ _ _ rfl (vals H) _ _ rfl rfl 32 tOut HHS.out rfl (vals_one _) ?_; have HB6 := Lib.hid (HB5.out.alloc (Below.size HB5.out) (.cells (vals H) 28)); have HI6 := Lib.hid (BytesIn.vals (l := H.take 8) 0 (heap_alloc_new w5 (.cells (vals H) 28)) (by rw [List.drop_zero, List.length_take, HHL.out]; rfl)))
    | (go_at_call 7; refine (little64_any (some ⟨w5.heap.size, 0, none⟩) (H.take 8) 32 _ (by rw [List.length_take, HHL.out]; rfl) (HHB.out.take 8) HI6.out).mono ?_; rintro e w7 ⟨_, rfl, rfl, hb7⟩; have HB7 := Lib.hid (below_call hb7 HB6.out); clear hb7)
  exact ⟨rfl, .tuple #[.int .i64 (1 + R), .int .i64 0], by kernel_rfl, by rw [HRE.out], HB7.out⟩
end Go.Proofs.YtemkpihfenokmaaDoor
