/- The walk of FieldPowerLaws: it returns true for all bytes and words. -/
import Derived.Test.YtciakfhjjnmeeaaOpsW
import Derived.Test.YtciakfhjjnmeeaaFieldP
import Derived.Test.YtciakfhjjnmeeaaLeav
import Derived.Test.YtciakfhjjnmeeaaForm
import Derived.Test.YtciakfhjjnmeeaaNumber
import Derived.Deep.MidRow
namespace Go.Proofs.Ytciakfhjjnmeeaa
open Go.RowKit Nt

theorem range_part {w : World} {g : Nat} {cs : Array Value} {t : TypeId} (h : w.heap[g]? = some (.cells cs t (0, 0))) (o : Nat) (l : List Value) (hl : ∀ j v, l[j]? = some v → cs[o + j]? = some v) : w.rangeAt g o l :=
  fun j v hv => (row_cell h (o + j)).trans (hl j v hv)

theorem part_a {La Lb : List Int} {x y : Value} {C : Array Value} (hC : C = (La.map (Value.int .u8) ++ Lb.map (Value.int .u8) ++ [x, y]).toArray) : ∀ j v, (La.map (Value.int .u8))[j]? = some v → C[0 + j]? = some v := by
  intro j v h
  obtain ⟨hj, _⟩ := List.getElem?_eq_some_iff.1 h
  rw [hC, Nat.zero_add, List.getElem?_toArray, List.append_assoc, List.getElem?_append_left hj]
  exact h
theorem part_b {La Lb : List Int} {x y : Value} {C : Array Value} (hC : C = (La.map (Value.int .u8) ++ Lb.map (Value.int .u8) ++ [x, y]).toArray) (hl : La.length = 32) : ∀ j v, (Lb.map (Value.int .u8))[j]? = some v → C[32 + j]? = some v := by
  intro j v h
  obtain ⟨hj, _⟩ := List.getElem?_eq_some_iff.1 h
  have e : (La.map (Value.int .u8)).length = 32 := by rw [List.length_map, hl]
  rw [hC, List.getElem?_toArray, List.append_assoc, List.getElem?_append_right (by omega), e, Nat.add_sub_cancel_left, List.getElem?_append_left hj]
  exact h
theorem part_m {La Lb : List Int} {x y : Value} {C : Array Value} (hC : C = (La.map (Value.int .u8) ++ Lb.map (Value.int .u8) ++ [x, y]).toArray) (hl : La.length = 32) (hl' : Lb.length = 32) : C[64]? = some x ∧ C[65]? = some y := by
  have e : (La.map (Value.int .u8) ++ Lb.map (Value.int .u8)).length = 64 := by rw [List.length_append, List.length_map, List.length_map, hl, hl']
  constructor
  · rw [hC, List.getElem?_toArray, List.getElem?_append_right (by omega), e]; rfl
  · rw [hC, List.getElem?_toArray, List.getElem?_append_right (by omega), e]; rfl

theorem name2 {G : World → Prop} {W2 wb : World} {ga gb : Nat} {La Lb : List Int} (ra : ∃ cs t, W2.heap[ga]? = some (.cells cs t (0, 0))) (rb : ∃ cs t, W2.heap[gb]? = some (.cells cs t (0, 0))) (hne : ga ≠ gb)
    (hB : Below wb.heap.size wb ((W2.setRow ga (vals La)).setRow gb (vals Lb))) (h : ∀ W, (BytesAt La ga W ∧ BytesAt Lb gb W ∧ Below wb.heap.size wb W) → G W) : G ((W2.setRow ga (vals La)).setRow gb (vals Lb)) := by
  obtain ⟨ca, ta, ha⟩ := ra
  obtain ⟨cb, tb, hb⟩ := rb
  exact h _ ⟨⟨ta, row_put_other (row_put ha) hne⟩, ⟨tb, row_put (row_put_other hb (Ne.symm hne))⟩, hB⟩
theorem pb_zero : pb 0 = bytesN P := (pb_bytes 0 (by omega)).trans (congrArg bytesN (by decide))
theorem prime_evn (V : Nat) (hV : V = P) (w : World) : Calls Try.prog 41 #[.int .u8 0] w (Gives (· = .agg (vals (bytesN V))) w) := by
  have h : bytesN V = pb 0 := by rw [hV]; exact pb_zero.symm
  rw [h]
  exact prime_ev 0 (by omega) (by omega) w
theorem add_u64 {p q : Operand} (m n : Nat) (h : m + n < 18446744073709551616) (w : World) : (do eqGuard .add 23 p q (.int .u64 m) (.int .u64 n); binOp .add 23 (.int .u64 m) (.int .u64 n) : Sem Value).run Try.prog w = .ok (.int .u64 ((m + n : Nat) : Int)) w := by
  have e : IntKind.u64.wrap ((m : Int) + n) = ((m + n : Nat) : Int) := by rw [IntKind.wrap_u64]; omega
  rw [← e]; rfl
theorem mul_u64 {p q : Operand} (m n : Nat) (h : m * n < 18446744073709551616) (w : World) : (do eqGuard .mul 23 p q (.int .u64 m) (.int .u64 n); binOp .mul 23 (.int .u64 m) (.int .u64 n) : Sem Value).run Try.prog w = .ok (.int .u64 ((m * n : Nat) : Int)) w := by
  have e : IntKind.u64.wrap ((m : Int) * n) = ((m * n : Nat) : Int) := by
    have : ((m : Int) * n) = ((m * n : Nat) : Int) := by push_cast; rfl
    rw [IntKind.wrap_u64, this]; omega
  rw [← e]; rfl
theorem op_conv3264 {o : Oper} {a : Act} {w : World} {Q : Exit → Act → World → Prop} {d : Nat} {K : Act → World → Prop} (x : Operand) (v : Nat) (ho : o.op = .convert 50 23 x) (hd : o.dst = some d) (hx : a.eval x = .int .u32 v) (h : v < 4294967296)
    (hK : ∀ x w', x = .int .u64 v → Below w.heap.size w w' → K (a.put (some d) x) w') : o.wp Try.prog a w K Q := by
  have e : IntKind.u64.wrap (v : Int) = v := by rw [IntKind.wrap_u64]; omega
  refine op_val (V := (· = .int .u64 v)) (.int .u64 v) hd ?_ rfl hK
  unfold execOp; rw [ho]
  show ((do let z ← convert 50 23 (a.eval x); pure (Next.value z)) : Sem Next).run Try.prog w = _
  rw [hx]
  have h2 : (convert 50 23 (.int .u32 v)).run Try.prog w = .ok (.int .u64 (IntKind.u64.wrap (v : Int))) w := by kernel_rfl
  rw [e] at h2
  rw [Sem.run_bind, h2]; rfl

set_option maxHeartbeats 4000000 in
set_option maxRecDepth 100000 in
theorem fieldPowerLaws_walk (La Lb : List Int) (m n : Nat) (w : World) (hla : La.length = 32) (hba : Byt La) (hlb : Lb.length = 32) (hbb : Byt Lb) (hm : m < 4294967296) (hn : n < 4294967296) :
    Calls Try.prog 8 #[.agg ((La.map (Value.int .u8) ++ Lb.map (Value.int .u8) ++ [Value.int .u32 m, Value.int .u32 n]).toArray)] w fun e w' => e = .returned (.bool true) ∧ Below w.heap.size w w' := by
  have HLA := Lib.hid hla
  have HLB := Lib.hid hlb
  clear hla hlb
  obtain ⟨C, hC⟩ : ∃ C, C = (La.map (Value.int .u8) ++ Lb.map (Value.int .u8) ++ [Value.int .u32 m, Value.int .u32 n]).toArray := ⟨_, rfl⟩
  rw [← hC]
  have HC := Lib.hid hC
  have hsz : C.size = 66 := by rw [hC]; simp [HLA.out, HLB.out]
  have HSZ := Lib.hid hsz
  clear hC hsz
  have R0 := row_new (w := w) (x := .cells C 53)
  have B0 : Below w.heap.size w (w.alloc (.cells C 53)) := by go_grown
  go_enter Try.func8, Try.ntmps8
  go_wp2_with fail
  generalize w.alloc (.cells C 53) = W at R0 B0 ⊢
  refine (awake_any _).mono ?_
  rintro e w1 ⟨rfl, b1⟩
  replace R0 := row_call b1 R0
  have B1 := below_call b1 B0
  have L0 := row_lt R0
  clear b1 B0 W
  go_wp2_with fail
  have hCP := part_m HC.out HLA.out HLB.out
  refine wp_region_held_drew (S := (fun w' => w'.heap[w.heap.size]? = some (.cells C 53 (0, 0)) ∧ Below w.heap.size w w')) (by kernel_rfl) ⟨R0, B1.drew⟩ (fun hS => ?_)
  clear R0 B1
  refine wpAnyH_take (i := 0) (oi := ⟨some 13, _, _, _, _, _⟩) (v := ?_) rfl (by kernel_rfl) (by kernel_rfl) (by kernel_rfl) (fun _ _ _ h => h) (Or.inl ⟨by rfl, ?_⟩) hS ?_
  rotate_left
  · intro w hSw; go_simp; first | done | with_reducible rfl
  try simp only [Act.put]
  refine wpAnyH_take (i := 1) (oi := ⟨some 14, _, _, _, _, _⟩) rfl (by kernel_rfl) (by kernel_rfl) (by kernel_rfl) (fun _ _ _ h => h) (yieldsIf_load_mid (by rfl) 22 (.tmp 13) rfl w.heap.size 0 (by rfl) (La.map (Value.int .u8)) _ (fun _ h => range_part h.1 0 _ (part_a HC.out)) Try.underlying22 rfl (by rw [List.length_map, HLA.out]; kernel_rfl)) hS ?_
  try simp only [Act.put]
  refine wpAnyH_take (i := 2) (oi := ⟨some 15, _, _, _, _, _⟩) (v := ?_) rfl (by kernel_rfl) (by kernel_rfl) (by kernel_rfl) (fun _ _ _ h => h) (Or.inl ⟨by rfl, ?_⟩) hS ?_
  rotate_left
  · intro w hSw; go_simp; first | done | with_reducible rfl
  try simp only [Act.put]
  refine wpAnyH_take (i := 3) (oi := ⟨some 16, _, _, _, _, _⟩) rfl (by kernel_rfl) (by kernel_rfl) (by kernel_rfl) (fun _ _ _ h => h) (yieldsIf_load_mid (by rfl) 22 (.tmp 15) rfl w.heap.size 32 (by rfl) (Lb.map (Value.int .u8)) _ (fun _ h => range_part h.1 32 _ (part_b HC.out HLA.out)) Try.underlying22 rfl (by rw [List.length_map, HLB.out]; kernel_rfl)) hS ?_
  try simp only [Act.put]
  refine wpAnyH_take (i := 4) (oi := ⟨some 17, _, _, _, _, _⟩) (v := ?_) rfl (by kernel_rfl) (by kernel_rfl) (by kernel_rfl) (fun _ _ _ h => h) (Or.inl ⟨by rfl, ?_⟩) hS ?_
  rotate_left
  · intro w hSw; go_simp; first | done | with_reducible rfl
  try simp only [Act.put]
  refine wpAnyH_take (i := 5) (oi := ⟨some 18, _, _, _, _, _⟩) (v := ?_) rfl (by kernel_rfl) (by kernel_rfl) (by kernel_rfl) (fun _ _ _ h => h) (Or.inl ⟨by rfl, ?_⟩) hS ?_
  rotate_left
  · intro w hSw; have c := (row_cell hSw.1 64).trans hCP.1; go_simp; first | done | with_reducible rfl
  try simp only [Act.put]
  refine wpAnyH_take (i := 6) (oi := ⟨some 19, _, _, _, _, _⟩) (v := ?_) rfl (by kernel_rfl) (by kernel_rfl) (by kernel_rfl) (fun _ _ _ h => h) (Or.inl ⟨by rfl, ?_⟩) hS ?_
  rotate_left
  · intro w hSw; go_simp; first | done | with_reducible rfl
  try simp only [Act.put]
  refine wpAnyH_take (i := 7) (oi := ⟨some 20, _, _, _, _, _⟩) (v := ?_) rfl (by kernel_rfl) (by kernel_rfl) (by kernel_rfl) (fun _ _ _ h => h) (Or.inl ⟨by rfl, ?_⟩) hS ?_
  rotate_left
  · intro w hSw; have c := (row_cell hSw.1 65).trans hCP.2; go_simp; first | done | with_reducible rfl
  try simp only [Act.put]
  refine wpAnyH_ready (rs := [8, 9]) (by kernel_rfl) (by simp) (AllReadyH.cons (o := ⟨some 3, _, _, _, _, _⟩) rfl (fun K hK => ?_) (AllReadyH.cons (o := ⟨some 4, _, _, _, _, _⟩) rfl (fun K hK => ?_) AllReadyH.nil))
  · go_simp
    refine hK.out _ _ ⟨row_alloc hS.1, hS.2.alloc hS.2.size _⟩ (fun hS => ?_)
    clear hK K
    try simp only [Act.put]
    refine wpAnyH_ready (rs := [9]) (by kernel_rfl) (by simp) (AllReadyH.cons (o := ⟨some 4, _, _, _, _, _⟩) rfl (fun K hK => ?_) AllReadyH.nil)
    go_simp
    refine hK.out _ _ ⟨row_alloc hS.1, hS.2.alloc hS.2.size _⟩ (fun hS => ?_)
    clear hK K
    try simp only [Act.put]
    refine wpAnyH_ready (rs := [10]) (by kernel_rfl) (by simp) (AllReadyH.cons (o := ⟨none, _, _, _, _, _⟩) rfl (fun K hK => ?_) AllReadyH.nil)
    rw [if_pos (by rfl)]
    refine wp_st_row _ _ _ rfl _ (vals La) (by rfl) (by rfl) _ _ (row_alloc row_new) 32 tBytes (by rw [vals_size, HLA.out]) (by rfl) (vals_one _) ?_
    refine hK.out _ _ ⟨row_put_other hS.1 (by omega), below_setRow hS.2 (by omega) _⟩ (fun hS => ?_)
    clear hK K
    try simp only [Act.put]
    refine wpAnyH_ready (rs := [11]) (by kernel_rfl) (by simp) (AllReadyH.cons (o := ⟨none, _, _, _, _, _⟩) rfl (fun K hK => ?_) AllReadyH.nil)
    rw [if_pos (by rfl)]
    refine wp_st_row _ _ _ rfl _ (vals Lb) (by rfl) (by rfl) _ _ (row_put_other (row_at (by simp)) (by simp)) 32 tBytes (by rw [vals_size, HLB.out]) (by rfl) (vals_one _) ?_
    refine hK.out _ _ ⟨row_put_other hS.1 (by omega), below_setRow hS.2 (by omega) _⟩ (fun hS => ?_)
    clear hK K
    try simp only [Act.put]
    refine wpAnyH_take (i := 12) (oi := ⟨some 5, _, _, _, _, _⟩) (v := ?_) rfl (by kernel_rfl) (by kernel_rfl) (by kernel_rfl) (fun _ _ _ h => h) (Or.inl ⟨by rfl, ?_⟩) hS ?_
    rotate_left
    · intro w hSw; go_simp; first | done | with_reducible rfl
    try simp only [Act.put]
    refine wpAnyH_take (i := 13) (oi := ⟨some 6, _, _, _, _, _⟩) (v := ?_) rfl (by kernel_rfl) (by kernel_rfl) (by kernel_rfl) (fun _ _ _ h => h) (Or.inl ⟨by rfl, ?_⟩) hS ?_
    rotate_left
    · intro w hSw; go_simp; first | done | with_reducible rfl
    try simp only [Act.put]
    refine wpAnyH_done (by kernel_rfl) ?_ _
    refine name2 (⟨_, _, row_alloc row_new⟩) (⟨_, _, row_at (by simp)⟩) (by omega) hS.2 fun Wn hN => ?_
    simp only [List.setIfInBounds_toArray, List.set_cons_zero, List.set_cons_succ]
    have hS := hN
    clear hN
    go_wp2_with fail
    obtain ⟨na, hna⟩ : ∃ na, numF La = na := ⟨_, rfl⟩
    obtain ⟨nb, hnb⟩ : ∃ nb, numF Lb = nb := ⟨_, rfl⟩
    obtain ⟨pm, hpm⟩ : ∃ p, p = na ^ m := ⟨_, rfl⟩
    obtain ⟨pn, hpn⟩ : ∃ p, p = na ^ n := ⟨_, rfl⟩
    obtain ⟨qm, hqm⟩ : ∃ p, p = nb ^ m := ⟨_, rfl⟩
    obtain ⟨pk, hpk⟩ : ∃ p, p = pm ^ n := ⟨_, rfl⟩
    obtain ⟨PP, hPP⟩ : ∃ V : Nat, V = P := ⟨_, rfl⟩
    have e0 : (1 : F) = na ^ 0 := (pow_zero na).symm
    have e3 : na * na * na = na ^ 3 := by rw [pow_succ, pow_succ, fpow_one]
    have eP : na = na ^ PP := by rw [hPP]; exact (frob na).symm
    have hP6 : PP < 2 ^ 256 := by rw [hPP]; decide
    have ea : pm * pn = na ^ (m + n) := by rw [hpm, hpn, fpow_add]
    have eb : pm * qm = (na * nb) ^ m := by rw [hpm, hqm, mul_fpow]
    have em : pk = na ^ (m * n) := by rw [hpk, hpm, fpow_mul]
    have b1 : m < 2 ^ 256 := Nat.lt_of_lt_of_le hm (by decide)
    have b2 : n < 2 ^ 256 := Nat.lt_of_lt_of_le hn (by decide)
    have b3 : m + n < 18446744073709551616 := by omega
    have b4 : m * n < 18446744073709551616 := Nat.lt_of_lt_of_le (Nat.mul_lt_mul_of_lt_of_le hm (Nat.le_of_lt hn) (by omega)) (by decide)
    have b5 : m + n < 2 ^ 256 := Nat.lt_of_lt_of_le b3 (by decide)
    have b6 : m * n < 2 ^ 256 := Nat.lt_of_lt_of_le b4 (by decide)
    have b7 : m < 18446744073709551616 := by omega
    have b8 : n < 18446744073709551616 := by omega
    have Hhna := Lib.hid hna
    have Hhnb := Lib.hid hnb
    have Hhpm := Lib.hid hpm
    have Hhpn := Lib.hid hpn
    have Hhqm := Lib.hid hqm
    have Hhpk := Lib.hid hpk
    have HhPP := Lib.hid hPP
    have He0 := Lib.hid e0
    have He3 := Lib.hid e3
    have HeP := Lib.hid eP
    have HhP6 := Lib.hid hP6
    have Hea := Lib.hid ea
    have Heb := Lib.hid eb
    have Hem := Lib.hid em
    have Hb1 := Lib.hid b1
    have Hb2 := Lib.hid b2
    have Hb3 := Lib.hid b3
    have Hb4 := Lib.hid b4
    have Hb5 := Lib.hid b5
    have Hb6 := Lib.hid b6
    have Hb7 := Lib.hid b7
    have Hb8 := Lib.hid b8
    clear hna hnb hpm hpn hqm hpk hPP e0 e3 eP hP6 ea eb em b1 b2 b3 b4 b5 b6 b7 b8
    obtain ⟨M, hM⟩ : ∃ M, M = Wn.heap.size := ⟨_, rfl⟩
    have hMB : w.heap.size ≤ M := hM ▸ (hS.2.2).size
    have lt0 := (hS.1).lt
    have lt1 := (hS.2.1).lt
    rw [← hM] at lt0 lt1
    refine hide_frame fun t0 HT => ?_
    have HS : t0.size = 106 := by rw [HT]; rfl
    have h3 : t0[3]? = some (.pointer (some ⟨w1.heap.size, 0, none⟩)) := by rw [HT]; rfl
    have h4 : t0[4]? = some (.pointer (some ⟨(w1.heap.size + 1), 0, none⟩)) := by rw [HT]; rfl
    have h5 : t0[5]? = some (.int .u32 m) := by rw [HT]; rfl
    have h6 : t0[6]? = some (.int .u32 n) := by rw [HT]; rfl
    clear HT
    refine wp_region_most 6 (fun i => [21, 22, 23, 24, 7, 8].getD i 0) (fun i => [none, none, none, none, some 5, some 5].getD i none) (fun i => [(· = .agg (vals La)), IsEl na, (· = .agg (vals Lb)), IsEl nb, (fun _ => True), (fun _ => True)].getD i (fun _ => True)) (fun w' => BytesAt La w1.heap.size w' ∧ BytesAt Lb (w1.heap.size + 1) w' ∧ Below w.heap.size w w' ∧ M ≤ w'.heap.size) M
      (by kernel_rfl) (by kernel_rfl) (slots_apart (by kernel_rfl)) (slots_lie (by rw [HS]; kernel_rfl)) ⟨hS.1, hS.2.1, (hS.2.2).drew, Nat.le_of_eq hM⟩ (fun w' h => h.2.2.2) (fun w1 w2 h b => ⟨(h.1).keep b, (h.2.1).keep b, below_call b h.2.2.1, Nat.le_trans h.2.2.2 b.size⟩) ?_ ?_ ?_
    · clear hS
      intro i o hi ho hA
      have hc : i = 0 ∨ i = 1 ∨ i = 2 ∨ i = 3 ∨ i = 4 ∨ i = 5 := by omega
      rcases hc with rfl | rfl | rfl | rfl | rfl | rfl
      · obtain rfl := Option.some.inj ho
        refine ⟨rfl, fun a w' hS hold hin K hK => ?_⟩
        refine if_always rfl ?_
        exact op_ld_by (.tmp 3) rfl rfl _ (eval_tmp ((hold 3 (slots_not (by kernel_rfl))).trans h3)) hS.1 HLA.out hK
      · obtain rfl := Option.some.inj ho
        refine ⟨rfl, fun a w' hS hold hin K hK => ?_⟩
        obtain ⟨y0, x0, rfl⟩ := hin 0 rfl (by omega) rfl
        refine if_always rfl ?_
        exact op_fn1 _ _ _ _ rfl rfl (eval_tmp x0) (by intro args w; kernel_rfl) (of_ev La HLA.out hba Hhna.out _) hK
      · obtain rfl := Option.some.inj ho
        refine ⟨rfl, fun a w' hS hold hin K hK => ?_⟩
        refine if_always rfl ?_
        exact op_ld_by (.tmp 4) rfl rfl _ (eval_tmp ((hold 4 (slots_not (by kernel_rfl))).trans h4)) hS.2.1 HLB.out hK
      · obtain rfl := Option.some.inj ho
        refine ⟨rfl, fun a w' hS hold hin K hK => ?_⟩
        obtain ⟨y2, x2, rfl⟩ := hin 2 rfl (by omega) rfl
        refine if_always rfl ?_
        exact op_fn1 _ _ _ _ rfl rfl (eval_tmp x2) (by intro args w; kernel_rfl) (of_ev Lb HLB.out hbb Hhnb.out _) hK
      · cases hA
      · cases hA
    · intro i o sz hi ho hA
      have hc : i = 0 ∨ i = 1 ∨ i = 2 ∨ i = 3 ∨ i = 4 ∨ i = 5 := by omega
      rcases hc with rfl | rfl | rfl | rfl | rfl | rfl
      · cases hA
      · cases hA
      · cases hA
      · cases hA
      · obtain rfl := Option.some.inj ho
        obtain rfl := Option.some.inj hA
        exact ⟨rfl, rfl, 26, #[.int .u64 0, .int .u64 0, .int .u64 0, .int .u64 0, .int .u64 0], rfl, fun a w' K h => wp_new 26 #[.int .u64 0, .int .u64 0, .int .u64 0, .int .u64 0, .int .u64 0] (fun w => by kernel_rfl) h⟩
      · obtain rfl := Option.some.inj ho
        obtain rfl := Option.some.inj hA
        exact ⟨rfl, rfl, 26, #[.int .u64 0, .int .u64 0, .int .u64 0, .int .u64 0, .int .u64 0], rfl, fun a w' K h => wp_new 26 #[.int .u64 0, .int .u64 0, .int .u64 0, .int .u64 0, .int .u64 0] (fun w => by kernel_rfl) h⟩
    clear hS
    intro t1 V1 hs hold hout hall hne hS
    replace HS := hs.trans HS
    obtain ⟨gx, h7, b7, r7⟩ : ∃ g, t1[7]? = some (.pointer (some ⟨g, 0, none⟩)) ∧ M ≤ g ∧ RowAt 5 g V1 := by
      obtain ⟨g, p1, p2, ty, cs, p3, p4⟩ := hall 4 (by omega) 5 rfl
      exact ⟨g, p1, p2, cs, ty, p3, p4⟩
    obtain ⟨gy, h8, b8, r8⟩ : ∃ g, t1[8]? = some (.pointer (some ⟨g, 0, none⟩)) ∧ M ≤ g ∧ RowAt 5 g V1 := by
      obtain ⟨g, p1, p2, ty, cs, p3, p4⟩ := hall 5 (by omega) 5 rfl
      exact ⟨g, p1, p2, cs, ty, p3, p4⟩
    have n7_8 : gx ≠ gy := fun h => hne 4 5 (by omega) (by omega) (by omega) rfl rfl (show t1[7]? = t1[8]? by rw [h7, h8, h])
    obtain ⟨x22, q22, v22⟩ : ∃ x, t1[22]? = some x ∧ (IsEl na) x := hout 1 (by omega) rfl
    obtain ⟨x24, q24, v24⟩ : ∃ x, t1[24]? = some x ∧ (IsEl nb) x := hout 3 (by omega) rfl
    replace h3 := (hold 3 (slots_not (by kernel_rfl))).trans h3
    replace h4 := (hold 4 (slots_not (by kernel_rfl))).trans h4
    replace h5 := (hold 5 (slots_not (by kernel_rfl))).trans h5
    replace h6 := (hold 6 (slots_not (by kernel_rfl))).trans h6
    clear hold hout hall hne hs
    simp only [List.drop_succ_cons, List.drop_zero]
    have bb := Below.refl M V1
    refine st_el rfl (.tmp 7) (.tmp 22) rfl rfl _ _ (eval_tmp h7) (eval_tmp q22) v22 r7 fun V1' e7 p7 => ?_
    replace bb := bb.trans (p7.2.mono b7)
    replace r8 := r8.of_eq (p7.1 _ (Ne.symm n7_8))
    refine st_el rfl (.tmp 8) (.tmp 24) rfl rfl _ _ (eval_tmp h8) (eval_tmp q24) v24 r8 fun V1'' e8 p8 => ?_
    replace bb := bb.trans (p8.2.mono b8)
    replace e7 := e7.of_eq (p8.1 _ n7_8)
    refine wpList_nil ?_
    have hS2 : BytesAt La w1.heap.size V1'' ∧ BytesAt Lb (w1.heap.size + 1) V1'' ∧ ElAt na gx V1'' ∧ ElAt nb gy V1'' ∧ Below w.heap.size w V1'' := ⟨(hS.1).under bb lt0, (hS.2.1).under bb lt1, e7, e8, (hS.2.2.1).trans (bb.mono hMB)⟩
    obtain ⟨f, e0, hf⟩ := wash HS
    have f3 := hf 3 _ h3
    have f4 := hf 4 _ h4
    have f5 := hf 5 _ h5
    have f6 := hf 6 _ h6
    have f7 := hf 7 _ h7
    have f8 := hf 8 _ h8
    clear hf
    rw [e0.trans (show _ = #[f 0, f 1, f 2, f 3, f 4, f 5, f 6, f 7, f 8, f 9, f 10, f 11, f 12, f 13, f 14, f 15, f 16, f 17, f 18, f 19, f 20, f 21, f 22, f 23, f 24, f 25, f 26, f 27, f 28, f 29, f 30, f 31, f 32, f 33, f 34, f 35, f 36, f 37, f 38, f 39, f 40, f 41, f 42, f 43, f 44, f 45, f 46, f 47, f 48, f 49, f 50, f 51, f 52, f 53, f 54, f 55, f 56, f 57, f 58, f 59, f 60, f 61, f 62, f 63, f 64, f 65, f 66, f 67, f 68, f 69, f 70, f 71, f 72, f 73, f 74, f 75, f 76, f 77, f 78, f 79, f 80, f 81, f 82, f 83, f 84, f 85, f 86, f 87, f 88, f 89, f 90, f 91, f 92, f 93, f 94, f 95, f 96, f 97, f 98, f 99, f 100, f 101, f 102, f 103, f 104, f 105] from by kernel_rfl), f3, f4, f5, f6, f7, f8]
    clear f3 f4 f5 f6 f7 f8
    clear e0
    dsimp only
    clear hS
    have hS := hS2
    clear hS2
    clear h3 h4 h5 h6 h7 h8 p7 p8 r7 r8 b7 b8 e7 e8 n7_8 v22 v24 q22 q24 lt0 lt1 hMB bb HS t1 t0 hM M
    replace hS := hS.2.2
    go_wp2_with ((with_reducible refine guard_list ?_); first | (refine held_load 26 _ rfl ?_) | (refine held_load 22 _ rfl ?_))
    obtain ⟨M, hM⟩ : ∃ M, M = V1''.heap.size := ⟨_, rfl⟩
    have lt0 := (hS.1).lt
    have lt1 := (hS.2.1).lt
    rw [← hM] at lt0 lt1
    refine hide_frame fun t0 HT => ?_
    have HS : t0.size = 106 := by rw [HT]; rfl
    have h5 : t0[5]? = some (.int .u32 m) := by rw [HT]; rfl
    have h6 : t0[6]? = some (.int .u32 n) := by rw [HT]; rfl
    have h7 : t0[7]? = some (.pointer (some ⟨gx, 0, none⟩)) := by rw [HT]; rfl
    have h8 : t0[8]? = some (.pointer (some ⟨gy, 0, none⟩)) := by rw [HT]; rfl
    clear HT
    refine wp_region_all 25 (fun i => [25, 26, 27, 28, 29, 30, 31, 32, 33, 34, 35, 36, 37, 38, 39, 40, 41, 42, 43, 44, 45, 46, 47, 48, 49, 50].getD i 0) (fun i => [IsEl na, (· = .agg (vals (bytesN PP))), IsEl na, IsEl na, (· = .bool true), (· = .bool false), (· = .bool false), IsEl na, (· = .agg (vals (bytesN 0))), IsEl (1 : F), IsEl (1 : F), (· = .bool true), (· = .bool false), (· = .bool false), (· = .bool false), IsEl na, (· = .agg (vals (bytesN 3))), IsEl (na * na * na), IsEl na, IsEl na, IsEl (na * na), IsEl na, IsEl ((na * na) * na), (· = .bool true), (· = .bool false), (· = .bool false)].getD i (fun _ => True)) (fun w' => ElAt na gx w' ∧ ElAt nb gy w' ∧ Below w.heap.size w w' ∧ M ≤ w'.heap.size)
      (by kernel_rfl) (by kernel_rfl) (by kernel_rfl) (slots_apart (by kernel_rfl)) (slots_lie (by rw [HS]; kernel_rfl)) ⟨hS.1, hS.2.1, (hS.2.2).drew, Nat.le_of_eq hM⟩ (fun w1 w2 h b => ⟨(h.1).keep b, (h.2.1).keep b, below_call b h.2.2.1, Nat.le_trans h.2.2.2 b.size⟩) ?_ ?_
    · clear hS
      intro i o hi ho
      have hc : i = 0 ∨ i = 1 ∨ i = 2 ∨ i = 3 ∨ i = 4 ∨ i = 5 ∨ i = 6 ∨ i = 7 ∨ i = 8 ∨ i = 9 ∨ i = 10 ∨ i = 11 ∨ i = 12 ∨ i = 13 ∨ i = 14 ∨ i = 15 ∨ i = 16 ∨ i = 17 ∨ i = 18 ∨ i = 19 ∨ i = 20 ∨ i = 21 ∨ i = 22 ∨ i = 23 ∨ i = 24 ∨ i = 25 := by omega
      rcases hc with rfl | rfl | rfl | rfl | rfl | rfl | rfl | rfl | rfl | rfl | rfl | rfl | rfl | rfl | rfl | rfl | rfl | rfl | rfl | rfl | rfl | rfl | rfl | rfl | rfl | rfl
      · obtain rfl := Option.some.inj ho
        refine ⟨rfl, fun a w' hS hold hin K hK => ?_⟩
        refine if_always rfl ?_
        exact op_ld_el (.tmp 7) rfl rfl _ (eval_tmp ((hold 7 (slots_not (by kernel_rfl))).trans h7)) hS.1 hK
      · obtain rfl := Option.some.inj ho
        refine ⟨rfl, fun a w' hS hold hin K hK => ?_⟩
        refine if_always rfl ?_
        exact op_fn1 _ _ _ _ rfl rfl rfl (by intro args w; kernel_rfl) (prime_evn PP HhPP.out _) hK
      · obtain rfl := Option.some.inj ho
        refine ⟨rfl, fun a w' hS hold hin K hK => ?_⟩
        obtain ⟨y0, x0, (v0 : IsEl na y0)⟩ := hin 0 rfl (by omega)
        obtain ⟨y1, x1, rfl⟩ := hin 1 rfl (by omega)
        refine if_always rfl ?_
        exact op_fn2 _ _ _ _ _ _ rfl rfl (eval_tmp x0) (eval_tmp x1) (by intro args w; kernel_rfl) (power_ev v0 PP HhP6.out HeP.out _) hK
      · obtain rfl := Option.some.inj ho
        refine ⟨rfl, fun a w' hS hold hin K hK => ?_⟩
        refine if_always rfl ?_
        exact op_ld_el (.tmp 7) rfl rfl _ (eval_tmp ((hold 7 (slots_not (by kernel_rfl))).trans h7)) hS.1 hK
      · obtain rfl := Option.some.inj ho
        refine ⟨rfl, fun a w' hS hold hin K hK => ?_⟩
        obtain ⟨y2, x2, (v2 : IsEl na y2)⟩ := hin 2 rfl (by omega)
        obtain ⟨y3, x3, (v3 : IsEl na y3)⟩ := hin 3 rfl (by omega)
        refine if_always rfl ?_
        exact op_fn2 _ _ _ _ _ _ rfl rfl (eval_tmp x2) (eval_tmp x3) (by intro args w; kernel_rfl) (one_el v2 v3 rfl _) hK
      · obtain rfl := Option.some.inj ho
        refine ⟨rfl, fun a w' hS hold hin K hK => ?_⟩
        obtain ⟨y4, x4, rfl⟩ := hin 4 rfl (by omega)
        refine if_always rfl ?_
        exact op_un (V := (· = .bool false)) _ _ _ _ (.bool false) rfl rfl (eval_tmp x4) (fun w => by kernel_rfl) rfl hK
      · obtain rfl := Option.some.inj ho
        refine ⟨rfl, fun a w' hS hold hin K hK => ?_⟩
        obtain ⟨y5, x5, rfl⟩ := hin 5 rfl (by omega)
        refine if_always rfl ?_
        exact op_move (V := (· = .bool false)) _ _ rfl rfl (eval_tmp x5) rfl hK
      · obtain rfl := Option.some.inj ho
        refine ⟨rfl, fun a w' hS hold hin K hK => ?_⟩
        obtain ⟨y6, x6, rfl⟩ := hin 6 rfl (by omega)
        refine if_guard (d := 31) rfl rfl x6 ?_
        exact op_ld_el (.tmp 7) rfl rfl _ (eval_tmp ((hold 7 (slots_not (by kernel_rfl))).trans h7)) hS.1 hK
      · obtain rfl := Option.some.inj ho
        refine ⟨rfl, fun a w' hS hold hin K hK => ?_⟩
        obtain ⟨y6, x6, rfl⟩ := hin 6 rfl (by omega)
        refine if_guard (d := 31) rfl rfl x6 ?_
        exact op_fn1 _ _ _ _ rfl rfl rfl (by intro args w; kernel_rfl) (number_any 0 _ (by omega)) hK
      · obtain rfl := Option.some.inj ho
        refine ⟨rfl, fun a w' hS hold hin K hK => ?_⟩
        obtain ⟨y6, x6, rfl⟩ := hin 6 rfl (by omega)
        obtain ⟨y7, x7, (v7 : IsEl na y7)⟩ := hin 7 rfl (by omega)
        obtain ⟨y8, x8, rfl⟩ := hin 8 rfl (by omega)
        refine if_guard (d := 31) rfl rfl x6 ?_
        exact op_fn2 _ _ _ _ _ _ rfl rfl (eval_tmp x7) (eval_tmp x8) (by intro args w; kernel_rfl) (power_ev v7 0 (by decide) He0.out _) hK
      · obtain rfl := Option.some.inj ho
        refine ⟨rfl, fun a w' hS hold hin K hK => ?_⟩
        obtain ⟨y6, x6, rfl⟩ := hin 6 rfl (by omega)
        refine if_guard (d := 31) rfl rfl x6 ?_
        exact op_fn1 _ _ _ _ rfl rfl rfl (by intro args w; kernel_rfl) (small_evl 1 (by omega) (by decide) _) hK
      · obtain rfl := Option.some.inj ho
        refine ⟨rfl, fun a w' hS hold hin K hK => ?_⟩
        obtain ⟨y6, x6, rfl⟩ := hin 6 rfl (by omega)
        obtain ⟨y9, x9, (v9 : IsEl (1 : F) y9)⟩ := hin 9 rfl (by omega)
        obtain ⟨y10, x10, (v10 : IsEl (1 : F) y10)⟩ := hin 10 rfl (by omega)
        refine if_guard (d := 31) rfl rfl x6 ?_
        exact op_fn2 _ _ _ _ _ _ rfl rfl (eval_tmp x9) (eval_tmp x10) (by intro args w; kernel_rfl) (one_el v9 v10 rfl _) hK
      · obtain rfl := Option.some.inj ho
        refine ⟨rfl, fun a w' hS hold hin K hK => ?_⟩
        obtain ⟨y6, x6, rfl⟩ := hin 6 rfl (by omega)
        obtain ⟨y11, x11, rfl⟩ := hin 11 rfl (by omega)
        refine if_guard (d := 31) rfl rfl x6 ?_
        exact op_un (V := (· = .bool false)) _ _ _ _ (.bool false) rfl rfl (eval_tmp x11) (fun w => by kernel_rfl) rfl hK
      · obtain rfl := Option.some.inj ho
        refine ⟨rfl, fun a w' hS hold hin K hK => ?_⟩
        obtain ⟨y6, x6, rfl⟩ := hin 6 rfl (by omega)
        obtain ⟨y12, x12, rfl⟩ := hin 12 rfl (by omega)
        refine if_always rfl ?_
        exact op_pick (V := (· = .bool false)) _ _ _ false _ rfl rfl (eval_tmp x6) (show (Act.eval a _) = _ from (eval_tmp x12)) rfl hK
      · obtain rfl := Option.some.inj ho
        refine ⟨rfl, fun a w' hS hold hin K hK => ?_⟩
        obtain ⟨y13, x13, rfl⟩ := hin 13 rfl (by omega)
        refine if_always rfl ?_
        exact op_move (V := (· = .bool false)) _ _ rfl rfl (eval_tmp x13) rfl hK
      · obtain rfl := Option.some.inj ho
        refine ⟨rfl, fun a w' hS hold hin K hK => ?_⟩
        obtain ⟨y14, x14, rfl⟩ := hin 14 rfl (by omega)
        refine if_guard (d := 39) rfl rfl x14 ?_
        exact op_ld_el (.tmp 7) rfl rfl _ (eval_tmp ((hold 7 (slots_not (by kernel_rfl))).trans h7)) hS.1 hK
      · obtain rfl := Option.some.inj ho
        refine ⟨rfl, fun a w' hS hold hin K hK => ?_⟩
        obtain ⟨y14, x14, rfl⟩ := hin 14 rfl (by omega)
        refine if_guard (d := 39) rfl rfl x14 ?_
        exact op_fn1 _ _ _ _ rfl rfl rfl (by intro args w; kernel_rfl) (number_any 3 _ (by omega)) hK
      · obtain rfl := Option.some.inj ho
        refine ⟨rfl, fun a w' hS hold hin K hK => ?_⟩
        obtain ⟨y14, x14, rfl⟩ := hin 14 rfl (by omega)
        obtain ⟨y15, x15, (v15 : IsEl na y15)⟩ := hin 15 rfl (by omega)
        obtain ⟨y16, x16, rfl⟩ := hin 16 rfl (by omega)
        refine if_guard (d := 39) rfl rfl x14 ?_
        exact op_fn2 _ _ _ _ _ _ rfl rfl (eval_tmp x15) (eval_tmp x16) (by intro args w; kernel_rfl) (power_ev v15 3 (by decide) He3.out _) hK
      · obtain rfl := Option.some.inj ho
        refine ⟨rfl, fun a w' hS hold hin K hK => ?_⟩
        obtain ⟨y14, x14, rfl⟩ := hin 14 rfl (by omega)
        refine if_guard (d := 39) rfl rfl x14 ?_
        exact op_ld_el (.tmp 7) rfl rfl _ (eval_tmp ((hold 7 (slots_not (by kernel_rfl))).trans h7)) hS.1 hK
      · obtain rfl := Option.some.inj ho
        refine ⟨rfl, fun a w' hS hold hin K hK => ?_⟩
        obtain ⟨y14, x14, rfl⟩ := hin 14 rfl (by omega)
        refine if_guard (d := 39) rfl rfl x14 ?_
        exact op_ld_el (.tmp 7) rfl rfl _ (eval_tmp ((hold 7 (slots_not (by kernel_rfl))).trans h7)) hS.1 hK
      · obtain rfl := Option.some.inj ho
        refine ⟨rfl, fun a w' hS hold hin K hK => ?_⟩
        obtain ⟨y14, x14, rfl⟩ := hin 14 rfl (by omega)
        obtain ⟨y18, x18, (v18 : IsEl na y18)⟩ := hin 18 rfl (by omega)
        obtain ⟨y19, x19, (v19 : IsEl na y19)⟩ := hin 19 rfl (by omega)
        refine if_guard (d := 39) rfl rfl x14 ?_
        exact op_fn2 _ _ _ _ _ _ rfl rfl (eval_tmp x18) (eval_tmp x19) (by intro args w; kernel_rfl) (mul_el v18 v19 _) hK
      · obtain rfl := Option.some.inj ho
        refine ⟨rfl, fun a w' hS hold hin K hK => ?_⟩
        obtain ⟨y14, x14, rfl⟩ := hin 14 rfl (by omega)
        refine if_guard (d := 39) rfl rfl x14 ?_
        exact op_ld_el (.tmp 7) rfl rfl _ (eval_tmp ((hold 7 (slots_not (by kernel_rfl))).trans h7)) hS.1 hK
      · obtain rfl := Option.some.inj ho
        refine ⟨rfl, fun a w' hS hold hin K hK => ?_⟩
        obtain ⟨y14, x14, rfl⟩ := hin 14 rfl (by omega)
        obtain ⟨y20, x20, (v20 : IsEl (na * na) y20)⟩ := hin 20 rfl (by omega)
        obtain ⟨y21, x21, (v21 : IsEl na y21)⟩ := hin 21 rfl (by omega)
        refine if_guard (d := 39) rfl rfl x14 ?_
        exact op_fn2 _ _ _ _ _ _ rfl rfl (eval_tmp x20) (eval_tmp x21) (by intro args w; kernel_rfl) (mul_el v20 v21 _) hK
      · obtain rfl := Option.some.inj ho
        refine ⟨rfl, fun a w' hS hold hin K hK => ?_⟩
        obtain ⟨y14, x14, rfl⟩ := hin 14 rfl (by omega)
        obtain ⟨y17, x17, (v17 : IsEl (na * na * na) y17)⟩ := hin 17 rfl (by omega)
        obtain ⟨y22, x22, (v22 : IsEl ((na * na) * na) y22)⟩ := hin 22 rfl (by omega)
        refine if_guard (d := 39) rfl rfl x14 ?_
        exact op_fn2 _ _ _ _ _ _ rfl rfl (eval_tmp x17) (eval_tmp x22) (by intro args w; kernel_rfl) (one_el v17 v22 rfl _) hK
      · obtain rfl := Option.some.inj ho
        refine ⟨rfl, fun a w' hS hold hin K hK => ?_⟩
        obtain ⟨y14, x14, rfl⟩ := hin 14 rfl (by omega)
        obtain ⟨y23, x23, rfl⟩ := hin 23 rfl (by omega)
        refine if_guard (d := 39) rfl rfl x14 ?_
        exact op_un (V := (· = .bool false)) _ _ _ _ (.bool false) rfl rfl (eval_tmp x23) (fun w => by kernel_rfl) rfl hK
      · obtain rfl := Option.some.inj ho
        refine ⟨rfl, fun a w' hS hold hin K hK => ?_⟩
        obtain ⟨y14, x14, rfl⟩ := hin 14 rfl (by omega)
        obtain ⟨y24, x24, rfl⟩ := hin 24 rfl (by omega)
        refine if_always rfl ?_
        exact op_pick (V := (· = .bool false)) _ _ _ false _ rfl rfl (eval_tmp x14) (show (Act.eval a _) = _ from (eval_tmp x24)) rfl hK
    clear hS
    intro t1 W2 hs hold hout hS
    replace HS := hs.trans HS
    obtain ⟨_, q50, rfl⟩ : ∃ x, t1[50]? = some x ∧ x = (.bool false : Value) := hout 25 (by omega)
    obtain ⟨f, e0, hf⟩ := wash HS
    have f50 := hf 50 _ q50
    have f5 := hf 5 _ ((hold 5 (slots_not (by kernel_rfl))).trans h5)
    have f6 := hf 6 _ ((hold 6 (slots_not (by kernel_rfl))).trans h6)
    have f7 := hf 7 _ ((hold 7 (slots_not (by kernel_rfl))).trans h7)
    have f8 := hf 8 _ ((hold 8 (slots_not (by kernel_rfl))).trans h8)
    clear hf
    rw [e0.trans (show _ = #[f 0, f 1, f 2, f 3, f 4, f 5, f 6, f 7, f 8, f 9, f 10, f 11, f 12, f 13, f 14, f 15, f 16, f 17, f 18, f 19, f 20, f 21, f 22, f 23, f 24, f 25, f 26, f 27, f 28, f 29, f 30, f 31, f 32, f 33, f 34, f 35, f 36, f 37, f 38, f 39, f 40, f 41, f 42, f 43, f 44, f 45, f 46, f 47, f 48, f 49, f 50, f 51, f 52, f 53, f 54, f 55, f 56, f 57, f 58, f 59, f 60, f 61, f 62, f 63, f 64, f 65, f 66, f 67, f 68, f 69, f 70, f 71, f 72, f 73, f 74, f 75, f 76, f 77, f 78, f 79, f 80, f 81, f 82, f 83, f 84, f 85, f 86, f 87, f 88, f 89, f 90, f 91, f 92, f 93, f 94, f 95, f 96, f 97, f 98, f 99, f 100, f 101, f 102, f 103, f 104, f 105] from by kernel_rfl), f50, f5, f6, f7, f8]
    clear f50 f5 f6 f7 f8
    clear e0
    dsimp only
    clear h5 h6 h7 h8 q50 hold hout hs HS t1 t0
    have hS' := hS
    clear hS
    have hS : ElAt na gx W2 ∧ ElAt nb gy W2 ∧ Below w.heap.size w W2 := ⟨hS'.1, hS'.2.1, hS'.2.2.1⟩
    clear hS' lt0 lt1
    clear hM
    clear M
    go_wp2_with ((with_reducible refine guard_list ?_); first | (refine held_load 26 _ rfl ?_) | (refine held_load 22 _ rfl ?_))
    obtain ⟨M, hM⟩ : ∃ M, M = W2.heap.size := ⟨_, rfl⟩
    have hMB : w.heap.size ≤ M := hM ▸ (hS.2.2).size
    have lt0 := (hS.1).lt
    have lt1 := (hS.2.1).lt
    rw [← hM] at lt0 lt1
    refine hide_frame fun t0 HT => ?_
    have HS : t0.size = 106 := by rw [HT]; rfl
    have h5 : t0[5]? = some (.int .u32 m) := by rw [HT]; rfl
    have h6 : t0[6]? = some (.int .u32 n) := by rw [HT]; rfl
    have h7 : t0[7]? = some (.pointer (some ⟨gx, 0, none⟩)) := by rw [HT]; rfl
    have h8 : t0[8]? = some (.pointer (some ⟨gy, 0, none⟩)) := by rw [HT]; rfl
    have h50 : t0[50]? = some (.bool false) := by rw [HT]; rfl
    clear HT
    refine wp_region_most 12 (fun i => [51, 52, 53, 54, 55, 56, 57, 58, 59, 60, 9, 10].getD i 0) (fun i => [none, none, none, none, none, none, none, none, none, none, some 5, some 5].getD i none) (fun i => [IsEl na, (· = .int .u32 m), (· = .int .u64 m), (· = .agg (vals (bytesN m))), IsEl pm, IsEl na, (· = .int .u32 n), (· = .int .u64 n), (· = .agg (vals (bytesN n))), IsEl pn, (fun _ => True), (fun _ => True)].getD i (fun _ => True)) (fun w' => ElAt na gx w' ∧ ElAt nb gy w' ∧ Below w.heap.size w w' ∧ M ≤ w'.heap.size) M
      (by kernel_rfl) (by kernel_rfl) (slots_apart (by kernel_rfl)) (slots_lie (by rw [HS]; kernel_rfl)) ⟨hS.1, hS.2.1, (hS.2.2).drew, Nat.le_of_eq hM⟩ (fun w' h => h.2.2.2) (fun w1 w2 h b => ⟨(h.1).keep b, (h.2.1).keep b, below_call b h.2.2.1, Nat.le_trans h.2.2.2 b.size⟩) ?_ ?_ ?_
    · clear hS
      intro i o hi ho hA
      have hc : i = 0 ∨ i = 1 ∨ i = 2 ∨ i = 3 ∨ i = 4 ∨ i = 5 ∨ i = 6 ∨ i = 7 ∨ i = 8 ∨ i = 9 ∨ i = 10 ∨ i = 11 := by omega
      rcases hc with rfl | rfl | rfl | rfl | rfl | rfl | rfl | rfl | rfl | rfl | rfl | rfl
      · obtain rfl := Option.some.inj ho
        refine ⟨rfl, fun a w' hS hold hin K hK => ?_⟩
        refine if_always rfl ?_
        exact op_ld_el (.tmp 7) rfl rfl _ (eval_tmp ((hold 7 (slots_not (by kernel_rfl))).trans h7)) hS.1 hK
      · obtain rfl := Option.some.inj ho
        refine ⟨rfl, fun a w' hS hold hin K hK => ?_⟩
        refine if_always rfl ?_
        exact op_move (V := (· = .int .u32 m)) _ _ rfl rfl (eval_tmp ((hold 5 (slots_not (by kernel_rfl))).trans h5)) rfl hK
      · obtain rfl := Option.some.inj ho
        refine ⟨rfl, fun a w' hS hold hin K hK => ?_⟩
        obtain ⟨y1, x1, rfl⟩ := hin 1 rfl (by omega) rfl
        refine if_always rfl ?_
        exact op_conv3264 _ m rfl rfl (eval_tmp x1) (by omega) hK
      · obtain rfl := Option.some.inj ho
        refine ⟨rfl, fun a w' hS hold hin K hK => ?_⟩
        obtain ⟨y2, x2, rfl⟩ := hin 2 rfl (by omega) rfl
        refine if_always rfl ?_
        exact op_fn1 _ _ _ _ rfl rfl (eval_tmp x2) (by intro args w; kernel_rfl) (number_any m _ Hb7.out) hK
      · obtain rfl := Option.some.inj ho
        refine ⟨rfl, fun a w' hS hold hin K hK => ?_⟩
        obtain ⟨y0, x0, (v0 : IsEl na y0)⟩ := hin 0 rfl (by omega) rfl
        obtain ⟨y3, x3, rfl⟩ := hin 3 rfl (by omega) rfl
        refine if_always rfl ?_
        exact op_fn2 _ _ _ _ _ _ rfl rfl (eval_tmp x0) (eval_tmp x3) (by intro args w; kernel_rfl) (power_ev v0 m Hb1.out Hhpm.out _) hK
      · obtain rfl := Option.some.inj ho
        refine ⟨rfl, fun a w' hS hold hin K hK => ?_⟩
        refine if_always rfl ?_
        exact op_ld_el (.tmp 7) rfl rfl _ (eval_tmp ((hold 7 (slots_not (by kernel_rfl))).trans h7)) hS.1 hK
      · obtain rfl := Option.some.inj ho
        refine ⟨rfl, fun a w' hS hold hin K hK => ?_⟩
        refine if_always rfl ?_
        exact op_move (V := (· = .int .u32 n)) _ _ rfl rfl (eval_tmp ((hold 6 (slots_not (by kernel_rfl))).trans h6)) rfl hK
      · obtain rfl := Option.some.inj ho
        refine ⟨rfl, fun a w' hS hold hin K hK => ?_⟩
        obtain ⟨y6, x6, rfl⟩ := hin 6 rfl (by omega) rfl
        refine if_always rfl ?_
        exact op_conv3264 _ n rfl rfl (eval_tmp x6) (by omega) hK
      · obtain rfl := Option.some.inj ho
        refine ⟨rfl, fun a w' hS hold hin K hK => ?_⟩
        obtain ⟨y7, x7, rfl⟩ := hin 7 rfl (by omega) rfl
        refine if_always rfl ?_
        exact op_fn1 _ _ _ _ rfl rfl (eval_tmp x7) (by intro args w; kernel_rfl) (number_any n _ Hb8.out) hK
      · obtain rfl := Option.some.inj ho
        refine ⟨rfl, fun a w' hS hold hin K hK => ?_⟩
        obtain ⟨y5, x5, (v5 : IsEl na y5)⟩ := hin 5 rfl (by omega) rfl
        obtain ⟨y8, x8, rfl⟩ := hin 8 rfl (by omega) rfl
        refine if_always rfl ?_
        exact op_fn2 _ _ _ _ _ _ rfl rfl (eval_tmp x5) (eval_tmp x8) (by intro args w; kernel_rfl) (power_ev v5 n Hb2.out Hhpn.out _) hK
      · cases hA
      · cases hA
    · intro i o sz hi ho hA
      have hc : i = 0 ∨ i = 1 ∨ i = 2 ∨ i = 3 ∨ i = 4 ∨ i = 5 ∨ i = 6 ∨ i = 7 ∨ i = 8 ∨ i = 9 ∨ i = 10 ∨ i = 11 := by omega
      rcases hc with rfl | rfl | rfl | rfl | rfl | rfl | rfl | rfl | rfl | rfl | rfl | rfl
      · cases hA
      · cases hA
      · cases hA
      · cases hA
      · cases hA
      · cases hA
      · cases hA
      · cases hA
      · cases hA
      · cases hA
      · obtain rfl := Option.some.inj ho
        obtain rfl := Option.some.inj hA
        exact ⟨rfl, rfl, 26, #[.int .u64 0, .int .u64 0, .int .u64 0, .int .u64 0, .int .u64 0], rfl, fun a w' K h => wp_new 26 #[.int .u64 0, .int .u64 0, .int .u64 0, .int .u64 0, .int .u64 0] (fun w => by kernel_rfl) h⟩
      · obtain rfl := Option.some.inj ho
        obtain rfl := Option.some.inj hA
        exact ⟨rfl, rfl, 26, #[.int .u64 0, .int .u64 0, .int .u64 0, .int .u64 0, .int .u64 0], rfl, fun a w' K h => wp_new 26 #[.int .u64 0, .int .u64 0, .int .u64 0, .int .u64 0, .int .u64 0] (fun w => by kernel_rfl) h⟩
    clear hS
    intro t1 V3 hs hold hout hall hne hS
    replace HS := hs.trans HS
    obtain ⟨gp, h9, b9, r9⟩ : ∃ g, t1[9]? = some (.pointer (some ⟨g, 0, none⟩)) ∧ M ≤ g ∧ RowAt 5 g V3 := by
      obtain ⟨g, p1, p2, ty, cs, p3, p4⟩ := hall 10 (by omega) 5 rfl
      exact ⟨g, p1, p2, cs, ty, p3, p4⟩
    obtain ⟨gq, h10, b10, r10⟩ : ∃ g, t1[10]? = some (.pointer (some ⟨g, 0, none⟩)) ∧ M ≤ g ∧ RowAt 5 g V3 := by
      obtain ⟨g, p1, p2, ty, cs, p3, p4⟩ := hall 11 (by omega) 5 rfl
      exact ⟨g, p1, p2, cs, ty, p3, p4⟩
    have n9_10 : gp ≠ gq := fun h => hne 10 11 (by omega) (by omega) (by omega) rfl rfl (show t1[9]? = t1[10]? by rw [h9, h10, h])
    obtain ⟨x55, q55, v55⟩ : ∃ x, t1[55]? = some x ∧ (IsEl pm) x := hout 4 (by omega) rfl
    obtain ⟨x60, q60, v60⟩ : ∃ x, t1[60]? = some x ∧ (IsEl pn) x := hout 9 (by omega) rfl
    replace h5 := (hold 5 (slots_not (by kernel_rfl))).trans h5
    replace h6 := (hold 6 (slots_not (by kernel_rfl))).trans h6
    replace h7 := (hold 7 (slots_not (by kernel_rfl))).trans h7
    replace h8 := (hold 8 (slots_not (by kernel_rfl))).trans h8
    replace h50 := (hold 50 (slots_not (by kernel_rfl))).trans h50
    clear hold hout hall hne hs
    simp only [List.drop_succ_cons, List.drop_zero]
    have bb := Below.refl M V3
    refine st_el rfl (.tmp 9) (.tmp 55) rfl rfl _ _ (eval_tmp h9) (eval_tmp q55) v55 r9 fun V3' e9 p9 => ?_
    replace bb := bb.trans (p9.2.mono b9)
    replace r10 := r10.of_eq (p9.1 _ (Ne.symm n9_10))
    refine st_el rfl (.tmp 10) (.tmp 60) rfl rfl _ _ (eval_tmp h10) (eval_tmp q60) v60 r10 fun V3'' e10 p10 => ?_
    replace bb := bb.trans (p10.2.mono b10)
    replace e9 := e9.of_eq (p10.1 _ n9_10)
    refine wpList_nil ?_
    have hS2 : ElAt na gx V3'' ∧ ElAt nb gy V3'' ∧ ElAt pm gp V3'' ∧ ElAt pn gq V3'' ∧ Below w.heap.size w V3'' := ⟨(hS.1).under bb lt0, (hS.2.1).under bb lt1, e9, e10, (hS.2.2.1).trans (bb.mono hMB)⟩
    obtain ⟨f, e0, hf⟩ := wash HS
    have f5 := hf 5 _ h5
    have f6 := hf 6 _ h6
    have f7 := hf 7 _ h7
    have f8 := hf 8 _ h8
    have f50 := hf 50 _ h50
    have f9 := hf 9 _ h9
    have f10 := hf 10 _ h10
    clear hf
    rw [e0.trans (show _ = #[f 0, f 1, f 2, f 3, f 4, f 5, f 6, f 7, f 8, f 9, f 10, f 11, f 12, f 13, f 14, f 15, f 16, f 17, f 18, f 19, f 20, f 21, f 22, f 23, f 24, f 25, f 26, f 27, f 28, f 29, f 30, f 31, f 32, f 33, f 34, f 35, f 36, f 37, f 38, f 39, f 40, f 41, f 42, f 43, f 44, f 45, f 46, f 47, f 48, f 49, f 50, f 51, f 52, f 53, f 54, f 55, f 56, f 57, f 58, f 59, f 60, f 61, f 62, f 63, f 64, f 65, f 66, f 67, f 68, f 69, f 70, f 71, f 72, f 73, f 74, f 75, f 76, f 77, f 78, f 79, f 80, f 81, f 82, f 83, f 84, f 85, f 86, f 87, f 88, f 89, f 90, f 91, f 92, f 93, f 94, f 95, f 96, f 97, f 98, f 99, f 100, f 101, f 102, f 103, f 104, f 105] from by kernel_rfl), f5, f6, f7, f8, f50, f9, f10]
    clear f5 f6 f7 f8 f50 f9 f10
    clear e0
    dsimp only
    clear hS
    have hS := hS2
    clear hS2
    clear h5 h6 h7 h8 h50 h9 h10 p9 p10 r9 r10 b9 b10 e9 e10 n9_10 v55 v60 q55 q60 lt0 lt1 hMB bb HS t1 t0 hM M
    go_wp2_with ((with_reducible refine guard_list ?_); first | (refine held_load 26 _ rfl ?_) | (refine held_load 22 _ rfl ?_))
    obtain ⟨M, hM⟩ : ∃ M, M = V3''.heap.size := ⟨_, rfl⟩
    have lt0 := (hS.1).lt
    have lt1 := (hS.2.1).lt
    have lt2 := (hS.2.2.1).lt
    have lt3 := (hS.2.2.2.1).lt
    rw [← hM] at lt0 lt1 lt2 lt3
    refine hide_frame fun t0 HT => ?_
    have HS : t0.size = 106 := by rw [HT]; rfl
    have h5 : t0[5]? = some (.int .u32 m) := by rw [HT]; rfl
    have h6 : t0[6]? = some (.int .u32 n) := by rw [HT]; rfl
    have h7 : t0[7]? = some (.pointer (some ⟨gx, 0, none⟩)) := by rw [HT]; rfl
    have h8 : t0[8]? = some (.pointer (some ⟨gy, 0, none⟩)) := by rw [HT]; rfl
    have h50 : t0[50]? = some (.bool false) := by rw [HT]; rfl
    have h9 : t0[9]? = some (.pointer (some ⟨gp, 0, none⟩)) := by rw [HT]; rfl
    have h10 : t0[10]? = some (.pointer (some ⟨gq, 0, none⟩)) := by rw [HT]; rfl
    clear HT
    refine wp_region_all 45 (fun i => [61, 62, 63, 64, 65, 66, 67, 68, 69, 70, 71, 72, 73, 74, 75, 76, 77, 78, 79, 80, 81, 82, 83, 84, 85, 86, 87, 88, 89, 90, 91, 92, 93, 94, 95, 96, 97, 98, 99, 100, 101, 102, 103, 104, 105, 2].getD i 0) (fun i => [IsEl na, (· = .int .u32 m), (· = .int .u64 m), (· = .int .u32 n), (· = .int .u64 n), (· = .int .u64 ((m + n : Nat) : Int)), (· = .agg (vals (bytesN (m + n)))), IsEl (pm * pn), IsEl pm, IsEl pn, IsEl (pm * pn), (· = .bool true), (· = .bool true), IsEl na, IsEl nb, IsEl (na * nb), (· = .int .u32 m), (· = .int .u64 m), (· = .agg (vals (bytesN m))), IsEl (pm * qm), IsEl pm, IsEl nb, (· = .int .u32 m), (· = .int .u64 m), (· = .agg (vals (bytesN m))), IsEl qm, IsEl (pm * qm), (· = .bool true), (· = .bool true), (· = .bool true), IsEl pm, (· = .int .u32 n), (· = .int .u64 n), (· = .agg (vals (bytesN n))), IsEl pk, IsEl na, (· = .int .u32 m), (· = .int .u64 m), (· = .int .u32 n), (· = .int .u64 n), (· = .int .u64 ((m * n : Nat) : Int)), (· = .agg (vals (bytesN (m * n)))), IsEl pk, (· = .bool true), (· = .bool true), (· = .bool true)].getD i (fun _ => True)) (fun w' => ElAt na gx w' ∧ ElAt nb gy w' ∧ ElAt pm gp w' ∧ ElAt pn gq w' ∧ Below w.heap.size w w' ∧ M ≤ w'.heap.size)
      (by kernel_rfl) (by kernel_rfl) (by kernel_rfl) (slots_apart (by kernel_rfl)) (slots_lie (by rw [HS]; kernel_rfl)) ⟨hS.1, hS.2.1, hS.2.2.1, hS.2.2.2.1, (hS.2.2.2.2).drew, Nat.le_of_eq hM⟩ (fun w1 w2 h b => ⟨(h.1).keep b, (h.2.1).keep b, (h.2.2.1).keep b, (h.2.2.2.1).keep b, below_call b h.2.2.2.2.1, Nat.le_trans h.2.2.2.2.2 b.size⟩) ?_ ?_
    · clear hS
      intro i o hi ho
      have hc : i = 0 ∨ i = 1 ∨ i = 2 ∨ i = 3 ∨ i = 4 ∨ i = 5 ∨ i = 6 ∨ i = 7 ∨ i = 8 ∨ i = 9 ∨ i = 10 ∨ i = 11 ∨ i = 12 ∨ i = 13 ∨ i = 14 ∨ i = 15 ∨ i = 16 ∨ i = 17 ∨ i = 18 ∨ i = 19 ∨ i = 20 ∨ i = 21 ∨ i = 22 ∨ i = 23 ∨ i = 24 ∨ i = 25 ∨ i = 26 ∨ i = 27 ∨ i = 28 ∨ i = 29 ∨ i = 30 ∨ i = 31 ∨ i = 32 ∨ i = 33 ∨ i = 34 ∨ i = 35 ∨ i = 36 ∨ i = 37 ∨ i = 38 ∨ i = 39 ∨ i = 40 ∨ i = 41 ∨ i = 42 ∨ i = 43 ∨ i = 44 ∨ i = 45 := by omega
      rcases hc with rfl | rfl | rfl | rfl | rfl | rfl | rfl | rfl | rfl | rfl | rfl | rfl | rfl | rfl | rfl | rfl | rfl | rfl | rfl | rfl | rfl | rfl | rfl | rfl | rfl | rfl | rfl | rfl | rfl | rfl | rfl | rfl | rfl | rfl | rfl | rfl | rfl | rfl | rfl | rfl | rfl | rfl | rfl | rfl | rfl | rfl
      · obtain rfl := Option.some.inj ho
        refine ⟨rfl, fun a w' hS hold hin K hK => ?_⟩
        refine if_always rfl ?_
        exact op_ld_el (.tmp 7) rfl rfl _ (eval_tmp ((hold 7 (slots_not (by kernel_rfl))).trans h7)) hS.1 hK
      · obtain rfl := Option.some.inj ho
        refine ⟨rfl, fun a w' hS hold hin K hK => ?_⟩
        refine if_always rfl ?_
        exact op_move (V := (· = .int .u32 m)) _ _ rfl rfl (eval_tmp ((hold 5 (slots_not (by kernel_rfl))).trans h5)) rfl hK
      · obtain rfl := Option.some.inj ho
        refine ⟨rfl, fun a w' hS hold hin K hK => ?_⟩
        obtain ⟨y1, x1, rfl⟩ := hin 1 rfl (by omega)
        refine if_always rfl ?_
        exact op_conv3264 _ m rfl rfl (eval_tmp x1) (by omega) hK
      · obtain rfl := Option.some.inj ho
        refine ⟨rfl, fun a w' hS hold hin K hK => ?_⟩
        refine if_always rfl ?_
        exact op_move (V := (· = .int .u32 n)) _ _ rfl rfl (eval_tmp ((hold 6 (slots_not (by kernel_rfl))).trans h6)) rfl hK
      · obtain rfl := Option.some.inj ho
        refine ⟨rfl, fun a w' hS hold hin K hK => ?_⟩
        obtain ⟨y3, x3, rfl⟩ := hin 3 rfl (by omega)
        refine if_always rfl ?_
        exact op_conv3264 _ n rfl rfl (eval_tmp x3) (by omega) hK
      · obtain rfl := Option.some.inj ho
        refine ⟨rfl, fun a w' hS hold hin K hK => ?_⟩
        obtain ⟨y2, x2, rfl⟩ := hin 2 rfl (by omega)
        obtain ⟨y4, x4, rfl⟩ := hin 4 rfl (by omega)
        refine if_always rfl ?_
        exact op_bin (V := (· = .int .u64 ((m + n : Nat) : Int))) _ _ _ _ _ _ _ (.int .u64 ((m + n : Nat) : Int)) rfl rfl (eval_tmp x2) (eval_tmp x4) (fun w => add_u64 m n Hb3.out w) rfl hK
      · obtain rfl := Option.some.inj ho
        refine ⟨rfl, fun a w' hS hold hin K hK => ?_⟩
        obtain ⟨y5, x5, rfl⟩ := hin 5 rfl (by omega)
        refine if_always rfl ?_
        exact op_fn1 _ _ _ _ rfl rfl (eval_tmp x5) (by intro args w; kernel_rfl) (number_any (m + n) _ Hb3.out) hK
      · obtain rfl := Option.some.inj ho
        refine ⟨rfl, fun a w' hS hold hin K hK => ?_⟩
        obtain ⟨y0, x0, (v0 : IsEl na y0)⟩ := hin 0 rfl (by omega)
        obtain ⟨y6, x6, rfl⟩ := hin 6 rfl (by omega)
        refine if_always rfl ?_
        exact op_fn2 _ _ _ _ _ _ rfl rfl (eval_tmp x0) (eval_tmp x6) (by intro args w; kernel_rfl) (power_ev v0 (m + n) Hb5.out Hea.out _) hK
      · obtain rfl := Option.some.inj ho
        refine ⟨rfl, fun a w' hS hold hin K hK => ?_⟩
        refine if_always rfl ?_
        exact op_ld_el (.tmp 9) rfl rfl _ (eval_tmp ((hold 9 (slots_not (by kernel_rfl))).trans h9)) hS.2.2.1 hK
      · obtain rfl := Option.some.inj ho
        refine ⟨rfl, fun a w' hS hold hin K hK => ?_⟩
        refine if_always rfl ?_
        exact op_ld_el (.tmp 10) rfl rfl _ (eval_tmp ((hold 10 (slots_not (by kernel_rfl))).trans h10)) hS.2.2.2.1 hK
      · obtain rfl := Option.some.inj ho
        refine ⟨rfl, fun a w' hS hold hin K hK => ?_⟩
        obtain ⟨y8, x8, (v8 : IsEl pm y8)⟩ := hin 8 rfl (by omega)
        obtain ⟨y9, x9, (v9 : IsEl pn y9)⟩ := hin 9 rfl (by omega)
        refine if_always rfl ?_
        exact op_fn2 _ _ _ _ _ _ rfl rfl (eval_tmp x8) (eval_tmp x9) (by intro args w; kernel_rfl) (mul_el v8 v9 _) hK
      · obtain rfl := Option.some.inj ho
        refine ⟨rfl, fun a w' hS hold hin K hK => ?_⟩
        obtain ⟨y7, x7, (v7 : IsEl (pm * pn) y7)⟩ := hin 7 rfl (by omega)
        obtain ⟨y10, x10, (v10 : IsEl (pm * pn) y10)⟩ := hin 10 rfl (by omega)
        refine if_always rfl ?_
        exact op_fn2 _ _ _ _ _ _ rfl rfl (eval_tmp x7) (eval_tmp x10) (by intro args w; kernel_rfl) (one_el v7 v10 rfl _) hK
      · obtain rfl := Option.some.inj ho
        refine ⟨rfl, fun a w' hS hold hin K hK => ?_⟩
        obtain ⟨y11, x11, rfl⟩ := hin 11 rfl (by omega)
        refine if_always rfl ?_
        exact op_move (V := (· = .bool true)) _ _ rfl rfl (eval_tmp x11) rfl hK
      · obtain rfl := Option.some.inj ho
        refine ⟨rfl, fun a w' hS hold hin K hK => ?_⟩
        obtain ⟨y12, x12, rfl⟩ := hin 12 rfl (by omega)
        refine if_guard (d := 73) rfl rfl x12 ?_
        exact op_ld_el (.tmp 7) rfl rfl _ (eval_tmp ((hold 7 (slots_not (by kernel_rfl))).trans h7)) hS.1 hK
      · obtain rfl := Option.some.inj ho
        refine ⟨rfl, fun a w' hS hold hin K hK => ?_⟩
        obtain ⟨y12, x12, rfl⟩ := hin 12 rfl (by omega)
        refine if_guard (d := 73) rfl rfl x12 ?_
        exact op_ld_el (.tmp 8) rfl rfl _ (eval_tmp ((hold 8 (slots_not (by kernel_rfl))).trans h8)) hS.2.1 hK
      · obtain rfl := Option.some.inj ho
        refine ⟨rfl, fun a w' hS hold hin K hK => ?_⟩
        obtain ⟨y12, x12, rfl⟩ := hin 12 rfl (by omega)
        obtain ⟨y13, x13, (v13 : IsEl na y13)⟩ := hin 13 rfl (by omega)
        obtain ⟨y14, x14, (v14 : IsEl nb y14)⟩ := hin 14 rfl (by omega)
        refine if_guard (d := 73) rfl rfl x12 ?_
        exact op_fn2 _ _ _ _ _ _ rfl rfl (eval_tmp x13) (eval_tmp x14) (by intro args w; kernel_rfl) (mul_el v13 v14 _) hK
      · obtain rfl := Option.some.inj ho
        refine ⟨rfl, fun a w' hS hold hin K hK => ?_⟩
        obtain ⟨y12, x12, rfl⟩ := hin 12 rfl (by omega)
        refine if_guard (d := 73) rfl rfl x12 ?_
        exact op_move (V := (· = .int .u32 m)) _ _ rfl rfl (eval_tmp ((hold 5 (slots_not (by kernel_rfl))).trans h5)) rfl hK
      · obtain rfl := Option.some.inj ho
        refine ⟨rfl, fun a w' hS hold hin K hK => ?_⟩
        obtain ⟨y12, x12, rfl⟩ := hin 12 rfl (by omega)
        obtain ⟨y16, x16, rfl⟩ := hin 16 rfl (by omega)
        refine if_guard (d := 73) rfl rfl x12 ?_
        exact op_conv3264 _ m rfl rfl (eval_tmp x16) (by omega) hK
      · obtain rfl := Option.some.inj ho
        refine ⟨rfl, fun a w' hS hold hin K hK => ?_⟩
        obtain ⟨y12, x12, rfl⟩ := hin 12 rfl (by omega)
        obtain ⟨y17, x17, rfl⟩ := hin 17 rfl (by omega)
        refine if_guard (d := 73) rfl rfl x12 ?_
        exact op_fn1 _ _ _ _ rfl rfl (eval_tmp x17) (by intro args w; kernel_rfl) (number_any m _ Hb7.out) hK
      · obtain rfl := Option.some.inj ho
        refine ⟨rfl, fun a w' hS hold hin K hK => ?_⟩
        obtain ⟨y12, x12, rfl⟩ := hin 12 rfl (by omega)
        obtain ⟨y15, x15, (v15 : IsEl (na * nb) y15)⟩ := hin 15 rfl (by omega)
        obtain ⟨y18, x18, rfl⟩ := hin 18 rfl (by omega)
        refine if_guard (d := 73) rfl rfl x12 ?_
        exact op_fn2 _ _ _ _ _ _ rfl rfl (eval_tmp x15) (eval_tmp x18) (by intro args w; kernel_rfl) (power_ev v15 m Hb1.out Heb.out _) hK
      · obtain rfl := Option.some.inj ho
        refine ⟨rfl, fun a w' hS hold hin K hK => ?_⟩
        obtain ⟨y12, x12, rfl⟩ := hin 12 rfl (by omega)
        refine if_guard (d := 73) rfl rfl x12 ?_
        exact op_ld_el (.tmp 9) rfl rfl _ (eval_tmp ((hold 9 (slots_not (by kernel_rfl))).trans h9)) hS.2.2.1 hK
      · obtain rfl := Option.some.inj ho
        refine ⟨rfl, fun a w' hS hold hin K hK => ?_⟩
        obtain ⟨y12, x12, rfl⟩ := hin 12 rfl (by omega)
        refine if_guard (d := 73) rfl rfl x12 ?_
        exact op_ld_el (.tmp 8) rfl rfl _ (eval_tmp ((hold 8 (slots_not (by kernel_rfl))).trans h8)) hS.2.1 hK
      · obtain rfl := Option.some.inj ho
        refine ⟨rfl, fun a w' hS hold hin K hK => ?_⟩
        obtain ⟨y12, x12, rfl⟩ := hin 12 rfl (by omega)
        refine if_guard (d := 73) rfl rfl x12 ?_
        exact op_move (V := (· = .int .u32 m)) _ _ rfl rfl (eval_tmp ((hold 5 (slots_not (by kernel_rfl))).trans h5)) rfl hK
      · obtain rfl := Option.some.inj ho
        refine ⟨rfl, fun a w' hS hold hin K hK => ?_⟩
        obtain ⟨y12, x12, rfl⟩ := hin 12 rfl (by omega)
        obtain ⟨y22, x22, rfl⟩ := hin 22 rfl (by omega)
        refine if_guard (d := 73) rfl rfl x12 ?_
        exact op_conv3264 _ m rfl rfl (eval_tmp x22) (by omega) hK
      · obtain rfl := Option.some.inj ho
        refine ⟨rfl, fun a w' hS hold hin K hK => ?_⟩
        obtain ⟨y12, x12, rfl⟩ := hin 12 rfl (by omega)
        obtain ⟨y23, x23, rfl⟩ := hin 23 rfl (by omega)
        refine if_guard (d := 73) rfl rfl x12 ?_
        exact op_fn1 _ _ _ _ rfl rfl (eval_tmp x23) (by intro args w; kernel_rfl) (number_any m _ Hb7.out) hK
      · obtain rfl := Option.some.inj ho
        refine ⟨rfl, fun a w' hS hold hin K hK => ?_⟩
        obtain ⟨y12, x12, rfl⟩ := hin 12 rfl (by omega)
        obtain ⟨y21, x21, (v21 : IsEl nb y21)⟩ := hin 21 rfl (by omega)
        obtain ⟨y24, x24, rfl⟩ := hin 24 rfl (by omega)
        refine if_guard (d := 73) rfl rfl x12 ?_
        exact op_fn2 _ _ _ _ _ _ rfl rfl (eval_tmp x21) (eval_tmp x24) (by intro args w; kernel_rfl) (power_ev v21 m Hb1.out Hhqm.out _) hK
      · obtain rfl := Option.some.inj ho
        refine ⟨rfl, fun a w' hS hold hin K hK => ?_⟩
        obtain ⟨y12, x12, rfl⟩ := hin 12 rfl (by omega)
        obtain ⟨y20, x20, (v20 : IsEl pm y20)⟩ := hin 20 rfl (by omega)
        obtain ⟨y25, x25, (v25 : IsEl qm y25)⟩ := hin 25 rfl (by omega)
        refine if_guard (d := 73) rfl rfl x12 ?_
        exact op_fn2 _ _ _ _ _ _ rfl rfl (eval_tmp x20) (eval_tmp x25) (by intro args w; kernel_rfl) (mul_el v20 v25 _) hK
      · obtain rfl := Option.some.inj ho
        refine ⟨rfl, fun a w' hS hold hin K hK => ?_⟩
        obtain ⟨y12, x12, rfl⟩ := hin 12 rfl (by omega)
        obtain ⟨y19, x19, (v19 : IsEl (pm * qm) y19)⟩ := hin 19 rfl (by omega)
        obtain ⟨y26, x26, (v26 : IsEl (pm * qm) y26)⟩ := hin 26 rfl (by omega)
        refine if_guard (d := 73) rfl rfl x12 ?_
        exact op_fn2 _ _ _ _ _ _ rfl rfl (eval_tmp x19) (eval_tmp x26) (by intro args w; kernel_rfl) (one_el v19 v26 rfl _) hK
      · obtain rfl := Option.some.inj ho
        refine ⟨rfl, fun a w' hS hold hin K hK => ?_⟩
        obtain ⟨y12, x12, rfl⟩ := hin 12 rfl (by omega)
        obtain ⟨y27, x27, rfl⟩ := hin 27 rfl (by omega)
        refine if_always rfl ?_
        exact op_pick (V := (· = .bool true)) _ _ _ true _ rfl rfl (eval_tmp x12) (show (Act.eval a _) = _ from (eval_tmp x27)) rfl hK
      · obtain rfl := Option.some.inj ho
        refine ⟨rfl, fun a w' hS hold hin K hK => ?_⟩
        obtain ⟨y28, x28, rfl⟩ := hin 28 rfl (by omega)
        refine if_always rfl ?_
        exact op_move (V := (· = .bool true)) _ _ rfl rfl (eval_tmp x28) rfl hK
      · obtain rfl := Option.some.inj ho
        refine ⟨rfl, fun a w' hS hold hin K hK => ?_⟩
        obtain ⟨y29, x29, rfl⟩ := hin 29 rfl (by omega)
        refine if_guard (d := 90) rfl rfl x29 ?_
        exact op_ld_el (.tmp 9) rfl rfl _ (eval_tmp ((hold 9 (slots_not (by kernel_rfl))).trans h9)) hS.2.2.1 hK
      · obtain rfl := Option.some.inj ho
        refine ⟨rfl, fun a w' hS hold hin K hK => ?_⟩
        obtain ⟨y29, x29, rfl⟩ := hin 29 rfl (by omega)
        refine if_guard (d := 90) rfl rfl x29 ?_
        exact op_move (V := (· = .int .u32 n)) _ _ rfl rfl (eval_tmp ((hold 6 (slots_not (by kernel_rfl))).trans h6)) rfl hK
      · obtain rfl := Option.some.inj ho
        refine ⟨rfl, fun a w' hS hold hin K hK => ?_⟩
        obtain ⟨y29, x29, rfl⟩ := hin 29 rfl (by omega)
        obtain ⟨y31, x31, rfl⟩ := hin 31 rfl (by omega)
        refine if_guard (d := 90) rfl rfl x29 ?_
        exact op_conv3264 _ n rfl rfl (eval_tmp x31) (by omega) hK
      · obtain rfl := Option.some.inj ho
        refine ⟨rfl, fun a w' hS hold hin K hK => ?_⟩
        obtain ⟨y29, x29, rfl⟩ := hin 29 rfl (by omega)
        obtain ⟨y32, x32, rfl⟩ := hin 32 rfl (by omega)
        refine if_guard (d := 90) rfl rfl x29 ?_
        exact op_fn1 _ _ _ _ rfl rfl (eval_tmp x32) (by intro args w; kernel_rfl) (number_any n _ Hb8.out) hK
      · obtain rfl := Option.some.inj ho
        refine ⟨rfl, fun a w' hS hold hin K hK => ?_⟩
        obtain ⟨y29, x29, rfl⟩ := hin 29 rfl (by omega)
        obtain ⟨y30, x30, (v30 : IsEl pm y30)⟩ := hin 30 rfl (by omega)
        obtain ⟨y33, x33, rfl⟩ := hin 33 rfl (by omega)
        refine if_guard (d := 90) rfl rfl x29 ?_
        exact op_fn2 _ _ _ _ _ _ rfl rfl (eval_tmp x30) (eval_tmp x33) (by intro args w; kernel_rfl) (power_ev v30 n Hb2.out Hhpk.out _) hK
      · obtain rfl := Option.some.inj ho
        refine ⟨rfl, fun a w' hS hold hin K hK => ?_⟩
        obtain ⟨y29, x29, rfl⟩ := hin 29 rfl (by omega)
        refine if_guard (d := 90) rfl rfl x29 ?_
        exact op_ld_el (.tmp 7) rfl rfl _ (eval_tmp ((hold 7 (slots_not (by kernel_rfl))).trans h7)) hS.1 hK
      · obtain rfl := Option.some.inj ho
        refine ⟨rfl, fun a w' hS hold hin K hK => ?_⟩
        obtain ⟨y29, x29, rfl⟩ := hin 29 rfl (by omega)
        refine if_guard (d := 90) rfl rfl x29 ?_
        exact op_move (V := (· = .int .u32 m)) _ _ rfl rfl (eval_tmp ((hold 5 (slots_not (by kernel_rfl))).trans h5)) rfl hK
      · obtain rfl := Option.some.inj ho
        refine ⟨rfl, fun a w' hS hold hin K hK => ?_⟩
        obtain ⟨y29, x29, rfl⟩ := hin 29 rfl (by omega)
        obtain ⟨y36, x36, rfl⟩ := hin 36 rfl (by omega)
        refine if_guard (d := 90) rfl rfl x29 ?_
        exact op_conv3264 _ m rfl rfl (eval_tmp x36) (by omega) hK
      · obtain rfl := Option.some.inj ho
        refine ⟨rfl, fun a w' hS hold hin K hK => ?_⟩
        obtain ⟨y29, x29, rfl⟩ := hin 29 rfl (by omega)
        refine if_guard (d := 90) rfl rfl x29 ?_
        exact op_move (V := (· = .int .u32 n)) _ _ rfl rfl (eval_tmp ((hold 6 (slots_not (by kernel_rfl))).trans h6)) rfl hK
      · obtain rfl := Option.some.inj ho
        refine ⟨rfl, fun a w' hS hold hin K hK => ?_⟩
        obtain ⟨y29, x29, rfl⟩ := hin 29 rfl (by omega)
        obtain ⟨y38, x38, rfl⟩ := hin 38 rfl (by omega)
        refine if_guard (d := 90) rfl rfl x29 ?_
        exact op_conv3264 _ n rfl rfl (eval_tmp x38) (by omega) hK
      · obtain rfl := Option.some.inj ho
        refine ⟨rfl, fun a w' hS hold hin K hK => ?_⟩
        obtain ⟨y29, x29, rfl⟩ := hin 29 rfl (by omega)
        obtain ⟨y37, x37, rfl⟩ := hin 37 rfl (by omega)
        obtain ⟨y39, x39, rfl⟩ := hin 39 rfl (by omega)
        refine if_guard (d := 90) rfl rfl x29 ?_
        exact op_bin (V := (· = .int .u64 ((m * n : Nat) : Int))) _ _ _ _ _ _ _ (.int .u64 ((m * n : Nat) : Int)) rfl rfl (eval_tmp x37) (eval_tmp x39) (fun w => mul_u64 m n Hb4.out w) rfl hK
      · obtain rfl := Option.some.inj ho
        refine ⟨rfl, fun a w' hS hold hin K hK => ?_⟩
        obtain ⟨y29, x29, rfl⟩ := hin 29 rfl (by omega)
        obtain ⟨y40, x40, rfl⟩ := hin 40 rfl (by omega)
        refine if_guard (d := 90) rfl rfl x29 ?_
        exact op_fn1 _ _ _ _ rfl rfl (eval_tmp x40) (by intro args w; kernel_rfl) (number_any (m * n) _ Hb4.out) hK
      · obtain rfl := Option.some.inj ho
        refine ⟨rfl, fun a w' hS hold hin K hK => ?_⟩
        obtain ⟨y29, x29, rfl⟩ := hin 29 rfl (by omega)
        obtain ⟨y35, x35, (v35 : IsEl na y35)⟩ := hin 35 rfl (by omega)
        obtain ⟨y41, x41, rfl⟩ := hin 41 rfl (by omega)
        refine if_guard (d := 90) rfl rfl x29 ?_
        exact op_fn2 _ _ _ _ _ _ rfl rfl (eval_tmp x35) (eval_tmp x41) (by intro args w; kernel_rfl) (power_ev v35 (m * n) Hb6.out Hem.out _) hK
      · obtain rfl := Option.some.inj ho
        refine ⟨rfl, fun a w' hS hold hin K hK => ?_⟩
        obtain ⟨y29, x29, rfl⟩ := hin 29 rfl (by omega)
        obtain ⟨y34, x34, (v34 : IsEl pk y34)⟩ := hin 34 rfl (by omega)
        obtain ⟨y42, x42, (v42 : IsEl pk y42)⟩ := hin 42 rfl (by omega)
        refine if_guard (d := 90) rfl rfl x29 ?_
        exact op_fn2 _ _ _ _ _ _ rfl rfl (eval_tmp x34) (eval_tmp x42) (by intro args w; kernel_rfl) (one_el v34 v42 rfl _) hK
      · obtain rfl := Option.some.inj ho
        refine ⟨rfl, fun a w' hS hold hin K hK => ?_⟩
        obtain ⟨y29, x29, rfl⟩ := hin 29 rfl (by omega)
        obtain ⟨y43, x43, rfl⟩ := hin 43 rfl (by omega)
        refine if_always rfl ?_
        exact op_pick (V := (· = .bool true)) _ _ _ true _ rfl rfl (eval_tmp x29) (show (Act.eval a _) = _ from (eval_tmp x43)) rfl hK
      · obtain rfl := Option.some.inj ho
        refine ⟨rfl, fun a w' hS hold hin K hK => ?_⟩
        obtain ⟨y44, x44, rfl⟩ := hin 44 rfl (by omega)
        refine if_always rfl ?_
        exact op_assign (V := (· = .bool true)) _ _ rfl rfl (eval_tmp x44) rfl hK
    clear hS
    intro t1 W4 hs hold hout hS
    replace HS := hs.trans HS
    obtain ⟨_, q2, rfl⟩ : ∃ x, t1[2]? = some x ∧ x = (.bool true : Value) := hout 45 (by omega)
    obtain ⟨f, e0, hf⟩ := wash HS
    have f2 := hf 2 _ q2
    have f5 := hf 5 _ ((hold 5 (slots_not (by kernel_rfl))).trans h5)
    have f6 := hf 6 _ ((hold 6 (slots_not (by kernel_rfl))).trans h6)
    have f7 := hf 7 _ ((hold 7 (slots_not (by kernel_rfl))).trans h7)
    have f8 := hf 8 _ ((hold 8 (slots_not (by kernel_rfl))).trans h8)
    have f50 := hf 50 _ ((hold 50 (slots_not (by kernel_rfl))).trans h50)
    have f9 := hf 9 _ ((hold 9 (slots_not (by kernel_rfl))).trans h9)
    have f10 := hf 10 _ ((hold 10 (slots_not (by kernel_rfl))).trans h10)
    clear hf
    rw [e0.trans (show _ = #[f 0, f 1, f 2, f 3, f 4, f 5, f 6, f 7, f 8, f 9, f 10, f 11, f 12, f 13, f 14, f 15, f 16, f 17, f 18, f 19, f 20, f 21, f 22, f 23, f 24, f 25, f 26, f 27, f 28, f 29, f 30, f 31, f 32, f 33, f 34, f 35, f 36, f 37, f 38, f 39, f 40, f 41, f 42, f 43, f 44, f 45, f 46, f 47, f 48, f 49, f 50, f 51, f 52, f 53, f 54, f 55, f 56, f 57, f 58, f 59, f 60, f 61, f 62, f 63, f 64, f 65, f 66, f 67, f 68, f 69, f 70, f 71, f 72, f 73, f 74, f 75, f 76, f 77, f 78, f 79, f 80, f 81, f 82, f 83, f 84, f 85, f 86, f 87, f 88, f 89, f 90, f 91, f 92, f 93, f 94, f 95, f 96, f 97, f 98, f 99, f 100, f 101, f 102, f 103, f 104, f 105] from by kernel_rfl), f2, f5, f6, f7, f8, f50, f9, f10]
    clear f2 f5 f6 f7 f8 f50 f9 f10
    clear e0
    dsimp only
    clear h5 h6 h7 h8 h50 h9 h10 q2 hold hout hs HS t1 t0
    have hS' := hS
    clear hS
    have hS : ElAt na gx W4 ∧ ElAt nb gy W4 ∧ ElAt pm gp W4 ∧ ElAt pn gq W4 ∧ Below w.heap.size w W4 := ⟨hS'.1, hS'.2.1, hS'.2.2.1, hS'.2.2.2.1, hS'.2.2.2.2.1⟩
    clear hS' lt0 lt1 lt2 lt3
    clear hM
    clear M
    go_wp2_with fail
    go_returns
    exact ⟨rfl, hS.2.2.2.2⟩
  · go_simp
    refine hK.out _ _ ⟨row_alloc hS.1, hS.2.alloc hS.2.size _⟩ (fun hS => ?_)
    clear hK K
    try simp only [Act.put]
    refine wpAnyH_ready (rs := [8]) (by kernel_rfl) (by simp) (AllReadyH.cons (o := ⟨some 3, _, _, _, _, _⟩) rfl (fun K hK => ?_) AllReadyH.nil)
    go_simp
    refine hK.out _ _ ⟨row_alloc hS.1, hS.2.alloc hS.2.size _⟩ (fun hS => ?_)
    clear hK K
    try simp only [Act.put]
    refine wpAnyH_ready (rs := [10]) (by kernel_rfl) (by simp) (AllReadyH.cons (o := ⟨none, _, _, _, _, _⟩) rfl (fun K hK => ?_) AllReadyH.nil)
    rw [if_pos (by rfl)]
    refine wp_st_row _ _ _ rfl _ (vals La) (by rfl) (by rfl) _ _ (row_at (by simp)) 32 tBytes (by rw [vals_size, HLA.out]) (by rfl) (vals_one _) ?_
    refine hK.out _ _ ⟨row_put_other hS.1 (by omega), below_setRow hS.2 (by omega) _⟩ (fun hS => ?_)
    clear hK K
    try simp only [Act.put]
    refine wpAnyH_ready (rs := [11]) (by kernel_rfl) (by simp) (AllReadyH.cons (o := ⟨none, _, _, _, _, _⟩) rfl (fun K hK => ?_) AllReadyH.nil)
    rw [if_pos (by rfl)]
    refine wp_st_row _ _ _ rfl _ (vals Lb) (by rfl) (by rfl) _ _ (row_put_other (row_alloc row_new) (by simp)) 32 tBytes (by rw [vals_size, HLB.out]) (by rfl) (vals_one _) ?_
    refine hK.out _ _ ⟨row_put_other hS.1 (by omega), below_setRow hS.2 (by omega) _⟩ (fun hS => ?_)
    clear hK K
    try simp only [Act.put]
    refine wpAnyH_take (i := 12) (oi := ⟨some 5, _, _, _, _, _⟩) (v := ?_) rfl (by kernel_rfl) (by kernel_rfl) (by kernel_rfl) (fun _ _ _ h => h) (Or.inl ⟨by rfl, ?_⟩) hS ?_
    rotate_left
    · intro w hSw; go_simp; first | done | with_reducible rfl
    try simp only [Act.put]
    refine wpAnyH_take (i := 13) (oi := ⟨some 6, _, _, _, _, _⟩) (v := ?_) rfl (by kernel_rfl) (by kernel_rfl) (by kernel_rfl) (fun _ _ _ h => h) (Or.inl ⟨by rfl, ?_⟩) hS ?_
    rotate_left
    · intro w hSw; go_simp; first | done | with_reducible rfl
    try simp only [Act.put]
    refine wpAnyH_done (by kernel_rfl) ?_ _
    refine name2 (⟨_, _, row_at (by simp)⟩) (⟨_, _, row_alloc row_new⟩) (by omega) hS.2 fun Wn hN => ?_
    simp only [List.setIfInBounds_toArray, List.set_cons_zero, List.set_cons_succ]
    have hS := hN
    clear hN
    go_wp2_with fail
    obtain ⟨na, hna⟩ : ∃ na, numF La = na := ⟨_, rfl⟩
    obtain ⟨nb, hnb⟩ : ∃ nb, numF Lb = nb := ⟨_, rfl⟩
    obtain ⟨pm, hpm⟩ : ∃ p, p = na ^ m := ⟨_, rfl⟩
    obtain ⟨pn, hpn⟩ : ∃ p, p = na ^ n := ⟨_, rfl⟩
    obtain ⟨qm, hqm⟩ : ∃ p, p = nb ^ m := ⟨_, rfl⟩
    obtain ⟨pk, hpk⟩ : ∃ p, p = pm ^ n := ⟨_, rfl⟩
    obtain ⟨PP, hPP⟩ : ∃ V : Nat, V = P := ⟨_, rfl⟩
    have e0 : (1 : F) = na ^ 0 := (pow_zero na).symm
    have e3 : na * na * na = na ^ 3 := by rw [pow_succ, pow_succ, fpow_one]
    have eP : na = na ^ PP := by rw [hPP]; exact (frob na).symm
    have hP6 : PP < 2 ^ 256 := by rw [hPP]; decide
    have ea : pm * pn = na ^ (m + n) := by rw [hpm, hpn, fpow_add]
    have eb : pm * qm = (na * nb) ^ m := by rw [hpm, hqm, mul_fpow]
    have em : pk = na ^ (m * n) := by rw [hpk, hpm, fpow_mul]
    have b1 : m < 2 ^ 256 := Nat.lt_of_lt_of_le hm (by decide)
    have b2 : n < 2 ^ 256 := Nat.lt_of_lt_of_le hn (by decide)
    have b3 : m + n < 18446744073709551616 := by omega
    have b4 : m * n < 18446744073709551616 := Nat.lt_of_lt_of_le (Nat.mul_lt_mul_of_lt_of_le hm (Nat.le_of_lt hn) (by omega)) (by decide)
    have b5 : m + n < 2 ^ 256 := Nat.lt_of_lt_of_le b3 (by decide)
    have b6 : m * n < 2 ^ 256 := Nat.lt_of_lt_of_le b4 (by decide)
    have b7 : m < 18446744073709551616 := by omega
    have b8 : n < 18446744073709551616 := by omega
    have Hhna := Lib.hid hna
    have Hhnb := Lib.hid hnb
    have Hhpm := Lib.hid hpm
    have Hhpn := Lib.hid hpn
    have Hhqm := Lib.hid hqm
    have Hhpk := Lib.hid hpk
    have HhPP := Lib.hid hPP
    have He0 := Lib.hid e0
    have He3 := Lib.hid e3
    have HeP := Lib.hid eP
    have HhP6 := Lib.hid hP6
    have Hea := Lib.hid ea
    have Heb := Lib.hid eb
    have Hem := Lib.hid em
    have Hb1 := Lib.hid b1
    have Hb2 := Lib.hid b2
    have Hb3 := Lib.hid b3
    have Hb4 := Lib.hid b4
    have Hb5 := Lib.hid b5
    have Hb6 := Lib.hid b6
    have Hb7 := Lib.hid b7
    have Hb8 := Lib.hid b8
    clear hna hnb hpm hpn hqm hpk hPP e0 e3 eP hP6 ea eb em b1 b2 b3 b4 b5 b6 b7 b8
    obtain ⟨M, hM⟩ : ∃ M, M = Wn.heap.size := ⟨_, rfl⟩
    have hMB : w.heap.size ≤ M := hM ▸ (hS.2.2).size
    have lt0 := (hS.1).lt
    have lt1 := (hS.2.1).lt
    rw [← hM] at lt0 lt1
    refine hide_frame fun t0 HT => ?_
    have HS : t0.size = 106 := by rw [HT]; rfl
    have h3 : t0[3]? = some (.pointer (some ⟨(w1.heap.size + 1), 0, none⟩)) := by rw [HT]; rfl
    have h4 : t0[4]? = some (.pointer (some ⟨w1.heap.size, 0, none⟩)) := by rw [HT]; rfl
    have h5 : t0[5]? = some (.int .u32 m) := by rw [HT]; rfl
    have h6 : t0[6]? = some (.int .u32 n) := by rw [HT]; rfl
    clear HT
    refine wp_region_most 6 (fun i => [21, 22, 23, 24, 7, 8].getD i 0) (fun i => [none, none, none, none, some 5, some 5].getD i none) (fun i => [(· = .agg (vals La)), IsEl na, (· = .agg (vals Lb)), IsEl nb, (fun _ => True), (fun _ => True)].getD i (fun _ => True)) (fun w' => BytesAt La (w1.heap.size + 1) w' ∧ BytesAt Lb w1.heap.size w' ∧ Below w.heap.size w w' ∧ M ≤ w'.heap.size) M
      (by kernel_rfl) (by kernel_rfl) (slots_apart (by kernel_rfl)) (slots_lie (by rw [HS]; kernel_rfl)) ⟨hS.1, hS.2.1, (hS.2.2).drew, Nat.le_of_eq hM⟩ (fun w' h => h.2.2.2) (fun w1 w2 h b => ⟨(h.1).keep b, (h.2.1).keep b, below_call b h.2.2.1, Nat.le_trans h.2.2.2 b.size⟩) ?_ ?_ ?_
    · clear hS
      intro i o hi ho hA
      have hc : i = 0 ∨ i = 1 ∨ i = 2 ∨ i = 3 ∨ i = 4 ∨ i = 5 := by omega
      rcases hc with rfl | rfl | rfl | rfl | rfl | rfl
      · obtain rfl := Option.some.inj ho
        refine ⟨rfl, fun a w' hS hold hin K hK => ?_⟩
        refine if_always rfl ?_
        exact op_ld_by (.tmp 3) rfl rfl _ (eval_tmp ((hold 3 (slots_not (by kernel_rfl))).trans h3)) hS.1 HLA.out hK
      · obtain rfl := Option.some.inj ho
        refine ⟨rfl, fun a w' hS hold hin K hK => ?_⟩
        obtain ⟨y0, x0, rfl⟩ := hin 0 rfl (by omega) rfl
        refine if_always rfl ?_
        exact op_fn1 _ _ _ _ rfl rfl (eval_tmp x0) (by intro args w; kernel_rfl) (of_ev La HLA.out hba Hhna.out _) hK
      · obtain rfl := Option.some.inj ho
        refine ⟨rfl, fun a w' hS hold hin K hK => ?_⟩
        refine if_always rfl ?_
        exact op_ld_by (.tmp 4) rfl rfl _ (eval_tmp ((hold 4 (slots_not (by kernel_rfl))).trans h4)) hS.2.1 HLB.out hK
      · obtain rfl := Option.some.inj ho
        refine ⟨rfl, fun a w' hS hold hin K hK => ?_⟩
        obtain ⟨y2, x2, rfl⟩ := hin 2 rfl (by omega) rfl
        refine if_always rfl ?_
        exact op_fn1 _ _ _ _ rfl rfl (eval_tmp x2) (by intro args w; kernel_rfl) (of_ev Lb HLB.out hbb Hhnb.out _) hK
      · cases hA
      · cases hA
    · intro i o sz hi ho hA
      have hc : i = 0 ∨ i = 1 ∨ i = 2 ∨ i = 3 ∨ i = 4 ∨ i = 5 := by omega
      rcases hc with rfl | rfl | rfl | rfl | rfl | rfl
      · cases hA
      · cases hA
      · cases hA
      · cases hA
      · obtain rfl := Option.some.inj ho
        obtain rfl := Option.some.inj hA
        exact ⟨rfl, rfl, 26, #[.int .u64 0, .int .u64 0, .int .u64 0, .int .u64 0, .int .u64 0], rfl, fun a w' K h => wp_new 26 #[.int .u64 0, .int .u64 0, .int .u64 0, .int .u64 0, .int .u64 0] (fun w => by kernel_rfl) h⟩
      · obtain rfl := Option.some.inj ho
        obtain rfl := Option.some.inj hA
        exact ⟨rfl, rfl, 26, #[.int .u64 0, .int .u64 0, .int .u64 0, .int .u64 0, .int .u64 0], rfl, fun a w' K h => wp_new 26 #[.int .u64 0, .int .u64 0, .int .u64 0, .int .u64 0, .int .u64 0] (fun w => by kernel_rfl) h⟩
    clear hS
    intro t1 V1 hs hold hout hall hne hS
    replace HS := hs.trans HS
    obtain ⟨gx, h7, b7, r7⟩ : ∃ g, t1[7]? = some (.pointer (some ⟨g, 0, none⟩)) ∧ M ≤ g ∧ RowAt 5 g V1 := by
      obtain ⟨g, p1, p2, ty, cs, p3, p4⟩ := hall 4 (by omega) 5 rfl
      exact ⟨g, p1, p2, cs, ty, p3, p4⟩
    obtain ⟨gy, h8, b8, r8⟩ : ∃ g, t1[8]? = some (.pointer (some ⟨g, 0, none⟩)) ∧ M ≤ g ∧ RowAt 5 g V1 := by
      obtain ⟨g, p1, p2, ty, cs, p3, p4⟩ := hall 5 (by omega) 5 rfl
      exact ⟨g, p1, p2, cs, ty, p3, p4⟩
    have n7_8 : gx ≠ gy := fun h => hne 4 5 (by omega) (by omega) (by omega) rfl rfl (show t1[7]? = t1[8]? by rw [h7, h8, h])
    obtain ⟨x22, q22, v22⟩ : ∃ x, t1[22]? = some x ∧ (IsEl na) x := hout 1 (by omega) rfl
    obtain ⟨x24, q24, v24⟩ : ∃ x, t1[24]? = some x ∧ (IsEl nb) x := hout 3 (by omega) rfl
    replace h3 := (hold 3 (slots_not (by kernel_rfl))).trans h3
    replace h4 := (hold 4 (slots_not (by kernel_rfl))).trans h4
    replace h5 := (hold 5 (slots_not (by kernel_rfl))).trans h5
    replace h6 := (hold 6 (slots_not (by kernel_rfl))).trans h6
    clear hold hout hall hne hs
    simp only [List.drop_succ_cons, List.drop_zero]
    have bb := Below.refl M V1
    refine st_el rfl (.tmp 7) (.tmp 22) rfl rfl _ _ (eval_tmp h7) (eval_tmp q22) v22 r7 fun V1' e7 p7 => ?_
    replace bb := bb.trans (p7.2.mono b7)
    replace r8 := r8.of_eq (p7.1 _ (Ne.symm n7_8))
    refine st_el rfl (.tmp 8) (.tmp 24) rfl rfl _ _ (eval_tmp h8) (eval_tmp q24) v24 r8 fun V1'' e8 p8 => ?_
    replace bb := bb.trans (p8.2.mono b8)
    replace e7 := e7.of_eq (p8.1 _ n7_8)
    refine wpList_nil ?_
    have hS2 : BytesAt La (w1.heap.size + 1) V1'' ∧ BytesAt Lb w1.heap.size V1'' ∧ ElAt na gx V1'' ∧ ElAt nb gy V1'' ∧ Below w.heap.size w V1'' := ⟨(hS.1).under bb lt0, (hS.2.1).under bb lt1, e7, e8, (hS.2.2.1).trans (bb.mono hMB)⟩
    obtain ⟨f, e0, hf⟩ := wash HS
    have f3 := hf 3 _ h3
    have f4 := hf 4 _ h4
    have f5 := hf 5 _ h5
    have f6 := hf 6 _ h6
    have f7 := hf 7 _ h7
    have f8 := hf 8 _ h8
    clear hf
    rw [e0.trans (show _ = #[f 0, f 1, f 2, f 3, f 4, f 5, f 6, f 7, f 8, f 9, f 10, f 11, f 12, f 13, f 14, f 15, f 16, f 17, f 18, f 19, f 20, f 21, f 22, f 23, f 24, f 25, f 26, f 27, f 28, f 29, f 30, f 31, f 32, f 33, f 34, f 35, f 36, f 37, f 38, f 39, f 40, f 41, f 42, f 43, f 44, f 45, f 46, f 47, f 48, f 49, f 50, f 51, f 52, f 53, f 54, f 55, f 56, f 57, f 58, f 59, f 60, f 61, f 62, f 63, f 64, f 65, f 66, f 67, f 68, f 69, f 70, f 71, f 72, f 73, f 74, f 75, f 76, f 77, f 78, f 79, f 80, f 81, f 82, f 83, f 84, f 85, f 86, f 87, f 88, f 89, f 90, f 91, f 92, f 93, f 94, f 95, f 96, f 97, f 98, f 99, f 100, f 101, f 102, f 103, f 104, f 105] from by kernel_rfl), f3, f4, f5, f6, f7, f8]
    clear f3 f4 f5 f6 f7 f8
    clear e0
    dsimp only
    clear hS
    have hS := hS2
    clear hS2
    clear h3 h4 h5 h6 h7 h8 p7 p8 r7 r8 b7 b8 e7 e8 n7_8 v22 v24 q22 q24 lt0 lt1 hMB bb HS t1 t0 hM M
    replace hS := hS.2.2
    go_wp2_with ((with_reducible refine guard_list ?_); first | (refine held_load 26 _ rfl ?_) | (refine held_load 22 _ rfl ?_))
    obtain ⟨M, hM⟩ : ∃ M, M = V1''.heap.size := ⟨_, rfl⟩
    have lt0 := (hS.1).lt
    have lt1 := (hS.2.1).lt
    rw [← hM] at lt0 lt1
    refine hide_frame fun t0 HT => ?_
    have HS : t0.size = 106 := by rw [HT]; rfl
    have h5 : t0[5]? = some (.int .u32 m) := by rw [HT]; rfl
    have h6 : t0[6]? = some (.int .u32 n) := by rw [HT]; rfl
    have h7 : t0[7]? = some (.pointer (some ⟨gx, 0, none⟩)) := by rw [HT]; rfl
    have h8 : t0[8]? = some (.pointer (some ⟨gy, 0, none⟩)) := by rw [HT]; rfl
    clear HT
    refine wp_region_all 25 (fun i => [25, 26, 27, 28, 29, 30, 31, 32, 33, 34, 35, 36, 37, 38, 39, 40, 41, 42, 43, 44, 45, 46, 47, 48, 49, 50].getD i 0) (fun i => [IsEl na, (· = .agg (vals (bytesN PP))), IsEl na, IsEl na, (· = .bool true), (· = .bool false), (· = .bool false), IsEl na, (· = .agg (vals (bytesN 0))), IsEl (1 : F), IsEl (1 : F), (· = .bool true), (· = .bool false), (· = .bool false), (· = .bool false), IsEl na, (· = .agg (vals (bytesN 3))), IsEl (na * na * na), IsEl na, IsEl na, IsEl (na * na), IsEl na, IsEl ((na * na) * na), (· = .bool true), (· = .bool false), (· = .bool false)].getD i (fun _ => True)) (fun w' => ElAt na gx w' ∧ ElAt nb gy w' ∧ Below w.heap.size w w' ∧ M ≤ w'.heap.size)
      (by kernel_rfl) (by kernel_rfl) (by kernel_rfl) (slots_apart (by kernel_rfl)) (slots_lie (by rw [HS]; kernel_rfl)) ⟨hS.1, hS.2.1, (hS.2.2).drew, Nat.le_of_eq hM⟩ (fun w1 w2 h b => ⟨(h.1).keep b, (h.2.1).keep b, below_call b h.2.2.1, Nat.le_trans h.2.2.2 b.size⟩) ?_ ?_
    · clear hS
      intro i o hi ho
      have hc : i = 0 ∨ i = 1 ∨ i = 2 ∨ i = 3 ∨ i = 4 ∨ i = 5 ∨ i = 6 ∨ i = 7 ∨ i = 8 ∨ i = 9 ∨ i = 10 ∨ i = 11 ∨ i = 12 ∨ i = 13 ∨ i = 14 ∨ i = 15 ∨ i = 16 ∨ i = 17 ∨ i = 18 ∨ i = 19 ∨ i = 20 ∨ i = 21 ∨ i = 22 ∨ i = 23 ∨ i = 24 ∨ i = 25 := by omega
      rcases hc with rfl | rfl | rfl | rfl | rfl | rfl | rfl | rfl | rfl | rfl | rfl | rfl | rfl | rfl | rfl | rfl | rfl | rfl | rfl | rfl | rfl | rfl | rfl | rfl | rfl | rfl
      · obtain rfl := Option.some.inj ho
        refine ⟨rfl, fun a w' hS hold hin K hK => ?_⟩
        refine if_always rfl ?_
        exact op_ld_el (.tmp 7) rfl rfl _ (eval_tmp ((hold 7 (slots_not (by kernel_rfl))).trans h7)) hS.1 hK
      · obtain rfl := Option.some.inj ho
        refine ⟨rfl, fun a w' hS hold hin K hK => ?_⟩
        refine if_always rfl ?_
        exact op_fn1 _ _ _ _ rfl rfl rfl (by intro args w; kernel_rfl) (prime_evn PP HhPP.out _) hK
      · obtain rfl := Option.some.inj ho
        refine ⟨rfl, fun a w' hS hold hin K hK => ?_⟩
        obtain ⟨y0, x0, (v0 : IsEl na y0)⟩ := hin 0 rfl (by omega)
        obtain ⟨y1, x1, rfl⟩ := hin 1 rfl (by omega)
        refine if_always rfl ?_
        exact op_fn2 _ _ _ _ _ _ rfl rfl (eval_tmp x0) (eval_tmp x1) (by intro args w; kernel_rfl) (power_ev v0 PP HhP6.out HeP.out _) hK
      · obtain rfl := Option.some.inj ho
        refine ⟨rfl, fun a w' hS hold hin K hK => ?_⟩
        refine if_always rfl ?_
        exact op_ld_el (.tmp 7) rfl rfl _ (eval_tmp ((hold 7 (slots_not (by kernel_rfl))).trans h7)) hS.1 hK
      · obtain rfl := Option.some.inj ho
        refine ⟨rfl, fun a w' hS hold hin K hK => ?_⟩
        obtain ⟨y2, x2, (v2 : IsEl na y2)⟩ := hin 2 rfl (by omega)
        obtain ⟨y3, x3, (v3 : IsEl na y3)⟩ := hin 3 rfl (by omega)
        refine if_always rfl ?_
        exact op_fn2 _ _ _ _ _ _ rfl rfl (eval_tmp x2) (eval_tmp x3) (by intro args w; kernel_rfl) (one_el v2 v3 rfl _) hK
      · obtain rfl := Option.some.inj ho
        refine ⟨rfl, fun a w' hS hold hin K hK => ?_⟩
        obtain ⟨y4, x4, rfl⟩ := hin 4 rfl (by omega)
        refine if_always rfl ?_
        exact op_un (V := (· = .bool false)) _ _ _ _ (.bool false) rfl rfl (eval_tmp x4) (fun w => by kernel_rfl) rfl hK
      · obtain rfl := Option.some.inj ho
        refine ⟨rfl, fun a w' hS hold hin K hK => ?_⟩
        obtain ⟨y5, x5, rfl⟩ := hin 5 rfl (by omega)
        refine if_always rfl ?_
        exact op_move (V := (· = .bool false)) _ _ rfl rfl (eval_tmp x5) rfl hK
      · obtain rfl := Option.some.inj ho
        refine ⟨rfl, fun a w' hS hold hin K hK => ?_⟩
        obtain ⟨y6, x6, rfl⟩ := hin 6 rfl (by omega)
        refine if_guard (d := 31) rfl rfl x6 ?_
        exact op_ld_el (.tmp 7) rfl rfl _ (eval_tmp ((hold 7 (slots_not (by kernel_rfl))).trans h7)) hS.1 hK
      · obtain rfl := Option.some.inj ho
        refine ⟨rfl, fun a w' hS hold hin K hK => ?_⟩
        obtain ⟨y6, x6, rfl⟩ := hin 6 rfl (by omega)
        refine if_guard (d := 31) rfl rfl x6 ?_
        exact op_fn1 _ _ _ _ rfl rfl rfl (by intro args w; kernel_rfl) (number_any 0 _ (by omega)) hK
      · obtain rfl := Option.some.inj ho
        refine ⟨rfl, fun a w' hS hold hin K hK => ?_⟩
        obtain ⟨y6, x6, rfl⟩ := hin 6 rfl (by omega)
        obtain ⟨y7, x7, (v7 : IsEl na y7)⟩ := hin 7 rfl (by omega)
        obtain ⟨y8, x8, rfl⟩ := hin 8 rfl (by omega)
        refine if_guard (d := 31) rfl rfl x6 ?_
        exact op_fn2 _ _ _ _ _ _ rfl rfl (eval_tmp x7) (eval_tmp x8) (by intro args w; kernel_rfl) (power_ev v7 0 (by decide) He0.out _) hK
      · obtain rfl := Option.some.inj ho
        refine ⟨rfl, fun a w' hS hold hin K hK => ?_⟩
        obtain ⟨y6, x6, rfl⟩ := hin 6 rfl (by omega)
        refine if_guard (d := 31) rfl rfl x6 ?_
        exact op_fn1 _ _ _ _ rfl rfl rfl (by intro args w; kernel_rfl) (small_evl 1 (by omega) (by decide) _) hK
      · obtain rfl := Option.some.inj ho
        refine ⟨rfl, fun a w' hS hold hin K hK => ?_⟩
        obtain ⟨y6, x6, rfl⟩ := hin 6 rfl (by omega)
        obtain ⟨y9, x9, (v9 : IsEl (1 : F) y9)⟩ := hin 9 rfl (by omega)
        obtain ⟨y10, x10, (v10 : IsEl (1 : F) y10)⟩ := hin 10 rfl (by omega)
        refine if_guard (d := 31) rfl rfl x6 ?_
        exact op_fn2 _ _ _ _ _ _ rfl rfl (eval_tmp x9) (eval_tmp x10) (by intro args w; kernel_rfl) (one_el v9 v10 rfl _) hK
      · obtain rfl := Option.some.inj ho
        refine ⟨rfl, fun a w' hS hold hin K hK => ?_⟩
        obtain ⟨y6, x6, rfl⟩ := hin 6 rfl (by omega)
        obtain ⟨y11, x11, rfl⟩ := hin 11 rfl (by omega)
        refine if_guard (d := 31) rfl rfl x6 ?_
        exact op_un (V := (· = .bool false)) _ _ _ _ (.bool false) rfl rfl (eval_tmp x11) (fun w => by kernel_rfl) rfl hK
      · obtain rfl := Option.some.inj ho
        refine ⟨rfl, fun a w' hS hold hin K hK => ?_⟩
        obtain ⟨y6, x6, rfl⟩ := hin 6 rfl (by omega)
        obtain ⟨y12, x12, rfl⟩ := hin 12 rfl (by omega)
        refine if_always rfl ?_
        exact op_pick (V := (· = .bool false)) _ _ _ false _ rfl rfl (eval_tmp x6) (show (Act.eval a _) = _ from (eval_tmp x12)) rfl hK
      · obtain rfl := Option.some.inj ho
        refine ⟨rfl, fun a w' hS hold hin K hK => ?_⟩
        obtain ⟨y13, x13, rfl⟩ := hin 13 rfl (by omega)
        refine if_always rfl ?_
        exact op_move (V := (· = .bool false)) _ _ rfl rfl (eval_tmp x13) rfl hK
      · obtain rfl := Option.some.inj ho
        refine ⟨rfl, fun a w' hS hold hin K hK => ?_⟩
        obtain ⟨y14, x14, rfl⟩ := hin 14 rfl (by omega)
        refine if_guard (d := 39) rfl rfl x14 ?_
        exact op_ld_el (.tmp 7) rfl rfl _ (eval_tmp ((hold 7 (slots_not (by kernel_rfl))).trans h7)) hS.1 hK
      · obtain rfl := Option.some.inj ho
        refine ⟨rfl, fun a w' hS hold hin K hK => ?_⟩
        obtain ⟨y14, x14, rfl⟩ := hin 14 rfl (by omega)
        refine if_guard (d := 39) rfl rfl x14 ?_
        exact op_fn1 _ _ _ _ rfl rfl rfl (by intro args w; kernel_rfl) (number_any 3 _ (by omega)) hK
      · obtain rfl := Option.some.inj ho
        refine ⟨rfl, fun a w' hS hold hin K hK => ?_⟩
        obtain ⟨y14, x14, rfl⟩ := hin 14 rfl (by omega)
        obtain ⟨y15, x15, (v15 : IsEl na y15)⟩ := hin 15 rfl (by omega)
        obtain ⟨y16, x16, rfl⟩ := hin 16 rfl (by omega)
        refine if_guard (d := 39) rfl rfl x14 ?_
        exact op_fn2 _ _ _ _ _ _ rfl rfl (eval_tmp x15) (eval_tmp x16) (by intro args w; kernel_rfl) (power_ev v15 3 (by decide) He3.out _) hK
      · obtain rfl := Option.some.inj ho
        refine ⟨rfl, fun a w' hS hold hin K hK => ?_⟩
        obtain ⟨y14, x14, rfl⟩ := hin 14 rfl (by omega)
        refine if_guard (d := 39) rfl rfl x14 ?_
        exact op_ld_el (.tmp 7) rfl rfl _ (eval_tmp ((hold 7 (slots_not (by kernel_rfl))).trans h7)) hS.1 hK
      · obtain rfl := Option.some.inj ho
        refine ⟨rfl, fun a w' hS hold hin K hK => ?_⟩
        obtain ⟨y14, x14, rfl⟩ := hin 14 rfl (by omega)
        refine if_guard (d := 39) rfl rfl x14 ?_
        exact op_ld_el (.tmp 7) rfl rfl _ (eval_tmp ((hold 7 (slots_not (by kernel_rfl))).trans h7)) hS.1 hK
      · obtain rfl := Option.some.inj ho
        refine ⟨rfl, fun a w' hS hold hin K hK => ?_⟩
        obtain ⟨y14, x14, rfl⟩ := hin 14 rfl (by omega)
        obtain ⟨y18, x18, (v18 : IsEl na y18)⟩ := hin 18 rfl (by omega)
        obtain ⟨y19, x19, (v19 : IsEl na y19)⟩ := hin 19 rfl (by omega)
        refine if_guard (d := 39) rfl rfl x14 ?_
        exact op_fn2 _ _ _ _ _ _ rfl rfl (eval_tmp x18) (eval_tmp x19) (by intro args w; kernel_rfl) (mul_el v18 v19 _) hK
      · obtain rfl := Option.some.inj ho
        refine ⟨rfl, fun a w' hS hold hin K hK => ?_⟩
        obtain ⟨y14, x14, rfl⟩ := hin 14 rfl (by omega)
        refine if_guard (d := 39) rfl rfl x14 ?_
        exact op_ld_el (.tmp 7) rfl rfl _ (eval_tmp ((hold 7 (slots_not (by kernel_rfl))).trans h7)) hS.1 hK
      · obtain rfl := Option.some.inj ho
        refine ⟨rfl, fun a w' hS hold hin K hK => ?_⟩
        obtain ⟨y14, x14, rfl⟩ := hin 14 rfl (by omega)
        obtain ⟨y20, x20, (v20 : IsEl (na * na) y20)⟩ := hin 20 rfl (by omega)
        obtain ⟨y21, x21, (v21 : IsEl na y21)⟩ := hin 21 rfl (by omega)
        refine if_guard (d := 39) rfl rfl x14 ?_
        exact op_fn2 _ _ _ _ _ _ rfl rfl (eval_tmp x20) (eval_tmp x21) (by intro args w; kernel_rfl) (mul_el v20 v21 _) hK
      · obtain rfl := Option.some.inj ho
        refine ⟨rfl, fun a w' hS hold hin K hK => ?_⟩
        obtain ⟨y14, x14, rfl⟩ := hin 14 rfl (by omega)
        obtain ⟨y17, x17, (v17 : IsEl (na * na * na) y17)⟩ := hin 17 rfl (by omega)
        obtain ⟨y22, x22, (v22 : IsEl ((na * na) * na) y22)⟩ := hin 22 rfl (by omega)
        refine if_guard (d := 39) rfl rfl x14 ?_
        exact op_fn2 _ _ _ _ _ _ rfl rfl (eval_tmp x17) (eval_tmp x22) (by intro args w; kernel_rfl) (one_el v17 v22 rfl _) hK
      · obtain rfl := Option.some.inj ho
        refine ⟨rfl, fun a w' hS hold hin K hK => ?_⟩
        obtain ⟨y14, x14, rfl⟩ := hin 14 rfl (by omega)
        obtain ⟨y23, x23, rfl⟩ := hin 23 rfl (by omega)
        refine if_guard (d := 39) rfl rfl x14 ?_
        exact op_un (V := (· = .bool false)) _ _ _ _ (.bool false) rfl rfl (eval_tmp x23) (fun w => by kernel_rfl) rfl hK
      · obtain rfl := Option.some.inj ho
        refine ⟨rfl, fun a w' hS hold hin K hK => ?_⟩
        obtain ⟨y14, x14, rfl⟩ := hin 14 rfl (by omega)
        obtain ⟨y24, x24, rfl⟩ := hin 24 rfl (by omega)
        refine if_always rfl ?_
        exact op_pick (V := (· = .bool false)) _ _ _ false _ rfl rfl (eval_tmp x14) (show (Act.eval a _) = _ from (eval_tmp x24)) rfl hK
    clear hS
    intro t1 W2 hs hold hout hS
    replace HS := hs.trans HS
    obtain ⟨_, q50, rfl⟩ : ∃ x, t1[50]? = some x ∧ x = (.bool false : Value) := hout 25 (by omega)
    obtain ⟨f, e0, hf⟩ := wash HS
    have f50 := hf 50 _ q50
    have f5 := hf 5 _ ((hold 5 (slots_not (by kernel_rfl))).trans h5)
    have f6 := hf 6 _ ((hold 6 (slots_not (by kernel_rfl))).trans h6)
    have f7 := hf 7 _ ((hold 7 (slots_not (by kernel_rfl))).trans h7)
    have f8 := hf 8 _ ((hold 8 (slots_not (by kernel_rfl))).trans h8)
    clear hf
    rw [e0.trans (show _ = #[f 0, f 1, f 2, f 3, f 4, f 5, f 6, f 7, f 8, f 9, f 10, f 11, f 12, f 13, f 14, f 15, f 16, f 17, f 18, f 19, f 20, f 21, f 22, f 23, f 24, f 25, f 26, f 27, f 28, f 29, f 30, f 31, f 32, f 33, f 34, f 35, f 36, f 37, f 38, f 39, f 40, f 41, f 42, f 43, f 44, f 45, f 46, f 47, f 48, f 49, f 50, f 51, f 52, f 53, f 54, f 55, f 56, f 57, f 58, f 59, f 60, f 61, f 62, f 63, f 64, f 65, f 66, f 67, f 68, f 69, f 70, f 71, f 72, f 73, f 74, f 75, f 76, f 77, f 78, f 79, f 80, f 81, f 82, f 83, f 84, f 85, f 86, f 87, f 88, f 89, f 90, f 91, f 92, f 93, f 94, f 95, f 96, f 97, f 98, f 99, f 100, f 101, f 102, f 103, f 104, f 105] from by kernel_rfl), f50, f5, f6, f7, f8]
    clear f50 f5 f6 f7 f8
    clear e0
    dsimp only
    clear h5 h6 h7 h8 q50 hold hout hs HS t1 t0
    have hS' := hS
    clear hS
    have hS : ElAt na gx W2 ∧ ElAt nb gy W2 ∧ Below w.heap.size w W2 := ⟨hS'.1, hS'.2.1, hS'.2.2.1⟩
    clear hS' lt0 lt1
    clear hM
    clear M
    go_wp2_with ((with_reducible refine guard_list ?_); first | (refine held_load 26 _ rfl ?_) | (refine held_load 22 _ rfl ?_))
    obtain ⟨M, hM⟩ : ∃ M, M = W2.heap.size := ⟨_, rfl⟩
    have hMB : w.heap.size ≤ M := hM ▸ (hS.2.2).size
    have lt0 := (hS.1).lt
    have lt1 := (hS.2.1).lt
    rw [← hM] at lt0 lt1
    refine hide_frame fun t0 HT => ?_
    have HS : t0.size = 106 := by rw [HT]; rfl
    have h5 : t0[5]? = some (.int .u32 m) := by rw [HT]; rfl
    have h6 : t0[6]? = some (.int .u32 n) := by rw [HT]; rfl
    have h7 : t0[7]? = some (.pointer (some ⟨gx, 0, none⟩)) := by rw [HT]; rfl
    have h8 : t0[8]? = some (.pointer (some ⟨gy, 0, none⟩)) := by rw [HT]; rfl
    have h50 : t0[50]? = some (.bool false) := by rw [HT]; rfl
    clear HT
    refine wp_region_most 12 (fun i => [51, 52, 53, 54, 55, 56, 57, 58, 59, 60, 9, 10].getD i 0) (fun i => [none, none, none, none, none, none, none, none, none, none, some 5, some 5].getD i none) (fun i => [IsEl na, (· = .int .u32 m), (· = .int .u64 m), (· = .agg (vals (bytesN m))), IsEl pm, IsEl na, (· = .int .u32 n), (· = .int .u64 n), (· = .agg (vals (bytesN n))), IsEl pn, (fun _ => True), (fun _ => True)].getD i (fun _ => True)) (fun w' => ElAt na gx w' ∧ ElAt nb gy w' ∧ Below w.heap.size w w' ∧ M ≤ w'.heap.size) M
      (by kernel_rfl) (by kernel_rfl) (slots_apart (by kernel_rfl)) (slots_lie (by rw [HS]; kernel_rfl)) ⟨hS.1, hS.2.1, (hS.2.2).drew, Nat.le_of_eq hM⟩ (fun w' h => h.2.2.2) (fun w1 w2 h b => ⟨(h.1).keep b, (h.2.1).keep b, below_call b h.2.2.1, Nat.le_trans h.2.2.2 b.size⟩) ?_ ?_ ?_
    · clear hS
      intro i o hi ho hA
      have hc : i = 0 ∨ i = 1 ∨ i = 2 ∨ i = 3 ∨ i = 4 ∨ i = 5 ∨ i = 6 ∨ i = 7 ∨ i = 8 ∨ i = 9 ∨ i = 10 ∨ i = 11 := by omega
      rcases hc with rfl | rfl | rfl | rfl | rfl | rfl | rfl | rfl | rfl | rfl | rfl | rfl
      · obtain rfl := Option.some.inj ho
        refine ⟨rfl, fun a w' hS hold hin K hK => ?_⟩
        refine if_always rfl ?_
        exact op_ld_el (.tmp 7) rfl rfl _ (eval_tmp ((hold 7 (slots_not (by kernel_rfl))).trans h7)) hS.1 hK
      · obtain rfl := Option.some.inj ho
        refine ⟨rfl, fun a w' hS hold hin K hK => ?_⟩
        refine if_always rfl ?_
        exact op_move (V := (· = .int .u32 m)) _ _ rfl rfl (eval_tmp ((hold 5 (slots_not (by kernel_rfl))).trans h5)) rfl hK
      · obtain rfl := Option.some.inj ho
        refine ⟨rfl, fun a w' hS hold hin K hK => ?_⟩
        obtain ⟨y1, x1, rfl⟩ := hin 1 rfl (by omega) rfl
        refine if_always rfl ?_
        exact op_conv3264 _ m rfl rfl (eval_tmp x1) (by omega) hK
      · obtain rfl := Option.some.inj ho
        refine ⟨rfl, fun a w' hS hold hin K hK => ?_⟩
        obtain ⟨y2, x2, rfl⟩ := hin 2 rfl (by omega) rfl
        refine if_always rfl ?_
        exact op_fn1 _ _ _ _ rfl rfl (eval_tmp x2) (by intro args w; kernel_rfl) (number_any m _ Hb7.out) hK
      · obtain rfl := Option.some.inj ho
        refine ⟨rfl, fun a w' hS hold hin K hK => ?_⟩
        obtain ⟨y0, x0, (v0 : IsEl na y0)⟩ := hin 0 rfl (by omega) rfl
        obtain ⟨y3, x3, rfl⟩ := hin 3 rfl (by omega) rfl
        refine if_always rfl ?_
        exact op_fn2 _ _ _ _ _ _ rfl rfl (eval_tmp x0) (eval_tmp x3) (by intro args w; kernel_rfl) (power_ev v0 m Hb1.out Hhpm.out _) hK
      · obtain rfl := Option.some.inj ho
        refine ⟨rfl, fun a w' hS hold hin K hK => ?_⟩
        refine if_always rfl ?_
        exact op_ld_el (.tmp 7) rfl rfl _ (eval_tmp ((hold 7 (slots_not (by kernel_rfl))).trans h7)) hS.1 hK
      · obtain rfl := Option.some.inj ho
        refine ⟨rfl, fun a w' hS hold hin K hK => ?_⟩
        refine if_always rfl ?_
        exact op_move (V := (· = .int .u32 n)) _ _ rfl rfl (eval_tmp ((hold 6 (slots_not (by kernel_rfl))).trans h6)) rfl hK
      · obtain rfl := Option.some.inj ho
        refine ⟨rfl, fun a w' hS hold hin K hK => ?_⟩
        obtain ⟨y6, x6, rfl⟩ := hin 6 rfl (by omega) rfl
        refine if_always rfl ?_
        exact op_conv3264 _ n rfl rfl (eval_tmp x6) (by omega) hK
      · obtain rfl := Option.some.inj ho
        refine ⟨rfl, fun a w' hS hold hin K hK => ?_⟩
        obtain ⟨y7, x7, rfl⟩ := hin 7 rfl (by omega) rfl
        refine if_always rfl ?_
        exact op_fn1 _ _ _ _ rfl rfl (eval_tmp x7) (by intro args w; kernel_rfl) (number_any n _ Hb8.out) hK
      · obtain rfl := Option.some.inj ho
        refine ⟨rfl, fun a w' hS hold hin K hK => ?_⟩
        obtain ⟨y5, x5, (v5 : IsEl na y5)⟩ := hin 5 rfl (by omega) rfl
        obtain ⟨y8, x8, rfl⟩ := hin 8 rfl (by omega) rfl
        refine if_always rfl ?_
        exact op_fn2 _ _ _ _ _ _ rfl rfl (eval_tmp x5) (eval_tmp x8) (by intro args w; kernel_rfl) (power_ev v5 n Hb2.out Hhpn.out _) hK
      · cases hA
      · cases hA
    · intro i o sz hi ho hA
      have hc : i = 0 ∨ i = 1 ∨ i = 2 ∨ i = 3 ∨ i = 4 ∨ i = 5 ∨ i = 6 ∨ i = 7 ∨ i = 8 ∨ i = 9 ∨ i = 10 ∨ i = 11 := by omega
      rcases hc with rfl | rfl | rfl | rfl | rfl | rfl | rfl | rfl | rfl | rfl | rfl | rfl
      · cases hA
      · cases hA
      · cases hA
      · cases hA
      · cases hA
      · cases hA
      · cases hA
      · cases hA
      · cases hA
      · cases hA
      · obtain rfl := Option.some.inj ho
        obtain rfl := Option.some.inj hA
        exact ⟨rfl, rfl, 26, #[.int .u64 0, .int .u64 0, .int .u64 0, .int .u64 0, .int .u64 0], rfl, fun a w' K h => wp_new 26 #[.int .u64 0, .int .u64 0, .int .u64 0, .int .u64 0, .int .u64 0] (fun w => by kernel_rfl) h⟩
      · obtain rfl := Option.some.inj ho
        obtain rfl := Option.some.inj hA
        exact ⟨rfl, rfl, 26, #[.int .u64 0, .int .u64 0, .int .u64 0, .int .u64 0, .int .u64 0], rfl, fun a w' K h => wp_new 26 #[.int .u64 0, .int .u64 0, .int .u64 0, .int .u64 0, .int .u64 0] (fun w => by kernel_rfl) h⟩
    clear hS
    intro t1 V3 hs hold hout hall hne hS
    replace HS := hs.trans HS
    obtain ⟨gp, h9, b9, r9⟩ : ∃ g, t1[9]? = some (.pointer (some ⟨g, 0, none⟩)) ∧ M ≤ g ∧ RowAt 5 g V3 := by
      obtain ⟨g, p1, p2, ty, cs, p3, p4⟩ := hall 10 (by omega) 5 rfl
      exact ⟨g, p1, p2, cs, ty, p3, p4⟩
    obtain ⟨gq, h10, b10, r10⟩ : ∃ g, t1[10]? = some (.pointer (some ⟨g, 0, none⟩)) ∧ M ≤ g ∧ RowAt 5 g V3 := by
      obtain ⟨g, p1, p2, ty, cs, p3, p4⟩ := hall 11 (by omega) 5 rfl
      exact ⟨g, p1, p2, cs, ty, p3, p4⟩
    have n9_10 : gp ≠ gq := fun h => hne 10 11 (by omega) (by omega) (by omega) rfl rfl (show t1[9]? = t1[10]? by rw [h9, h10, h])
    obtain ⟨x55, q55, v55⟩ : ∃ x, t1[55]? = some x ∧ (IsEl pm) x := hout 4 (by omega) rfl
    obtain ⟨x60, q60, v60⟩ : ∃ x, t1[60]? = some x ∧ (IsEl pn) x := hout 9 (by omega) rfl
    replace h5 := (hold 5 (slots_not (by kernel_rfl))).trans h5
    replace h6 := (hold 6 (slots_not (by kernel_rfl))).trans h6
    replace h7 := (hold 7 (slots_not (by kernel_rfl))).trans h7
    replace h8 := (hold 8 (slots_not (by kernel_rfl))).trans h8
    replace h50 := (hold 50 (slots_not (by kernel_rfl))).trans h50
    clear hold hout hall hne hs
    simp only [List.drop_succ_cons, List.drop_zero]
    have bb := Below.refl M V3
    refine st_el rfl (.tmp 9) (.tmp 55) rfl rfl _ _ (eval_tmp h9) (eval_tmp q55) v55 r9 fun V3' e9 p9 => ?_
    replace bb := bb.trans (p9.2.mono b9)
    replace r10 := r10.of_eq (p9.1 _ (Ne.symm n9_10))
    refine st_el rfl (.tmp 10) (.tmp 60) rfl rfl _ _ (eval_tmp h10) (eval_tmp q60) v60 r10 fun V3'' e10 p10 => ?_
    replace bb := bb.trans (p10.2.mono b10)
    replace e9 := e9.of_eq (p10.1 _ n9_10)
    refine wpList_nil ?_
    have hS2 : ElAt na gx V3'' ∧ ElAt nb gy V3'' ∧ ElAt pm gp V3'' ∧ ElAt pn gq V3'' ∧ Below w.heap.size w V3'' := ⟨(hS.1).under bb lt0, (hS.2.1).under bb lt1, e9, e10, (hS.2.2.1).trans (bb.mono hMB)⟩
    obtain ⟨f, e0, hf⟩ := wash HS
    have f5 := hf 5 _ h5
    have f6 := hf 6 _ h6
    have f7 := hf 7 _ h7
    have f8 := hf 8 _ h8
    have f50 := hf 50 _ h50
    have f9 := hf 9 _ h9
    have f10 := hf 10 _ h10
    clear hf
    rw [e0.trans (show _ = #[f 0, f 1, f 2, f 3, f 4, f 5, f 6, f 7, f 8, f 9, f 10, f 11, f 12, f 13, f 14, f 15, f 16, f 17, f 18, f 19, f 20, f 21, f 22, f 23, f 24, f 25, f 26, f 27, f 28, f 29, f 30, f 31, f 32, f 33, f 34, f 35, f 36, f 37, f 38, f 39, f 40, f 41, f 42, f 43, f 44, f 45, f 46, f 47, f 48, f 49, f 50, f 51, f 52, f 53, f 54, f 55, f 56, f 57, f 58, f 59, f 60, f 61, f 62, f 63, f 64, f 65, f 66, f 67, f 68, f 69, f 70, f 71, f 72, f 73, f 74, f 75, f 76, f 77, f 78, f 79, f 80, f 81, f 82, f 83, f 84, f 85, f 86, f 87, f 88, f 89, f 90, f 91, f 92, f 93, f 94, f 95, f 96, f 97, f 98, f 99, f 100, f 101, f 102, f 103, f 104, f 105] from by kernel_rfl), f5, f6, f7, f8, f50, f9, f10]
    clear f5 f6 f7 f8 f50 f9 f10
    clear e0
    dsimp only
    clear hS
    have hS := hS2
    clear hS2
    clear h5 h6 h7 h8 h50 h9 h10 p9 p10 r9 r10 b9 b10 e9 e10 n9_10 v55 v60 q55 q60 lt0 lt1 hMB bb HS t1 t0 hM M
    go_wp2_with ((with_reducible refine guard_list ?_); first | (refine held_load 26 _ rfl ?_) | (refine held_load 22 _ rfl ?_))
    obtain ⟨M, hM⟩ : ∃ M, M = V3''.heap.size := ⟨_, rfl⟩
    have lt0 := (hS.1).lt
    have lt1 := (hS.2.1).lt
    have lt2 := (hS.2.2.1).lt
    have lt3 := (hS.2.2.2.1).lt
    rw [← hM] at lt0 lt1 lt2 lt3
    refine hide_frame fun t0 HT => ?_
    have HS : t0.size = 106 := by rw [HT]; rfl
    have h5 : t0[5]? = some (.int .u32 m) := by rw [HT]; rfl
    have h6 : t0[6]? = some (.int .u32 n) := by rw [HT]; rfl
    have h7 : t0[7]? = some (.pointer (some ⟨gx, 0, none⟩)) := by rw [HT]; rfl
    have h8 : t0[8]? = some (.pointer (some ⟨gy, 0, none⟩)) := by rw [HT]; rfl
    have h50 : t0[50]? = some (.bool false) := by rw [HT]; rfl
    have h9 : t0[9]? = some (.pointer (some ⟨gp, 0, none⟩)) := by rw [HT]; rfl
    have h10 : t0[10]? = some (.pointer (some ⟨gq, 0, none⟩)) := by rw [HT]; rfl
    clear HT
    refine wp_region_all 45 (fun i => [61, 62, 63, 64, 65, 66, 67, 68, 69, 70, 71, 72, 73, 74, 75, 76, 77, 78, 79, 80, 81, 82, 83, 84, 85, 86, 87, 88, 89, 90, 91, 92, 93, 94, 95, 96, 97, 98, 99, 100, 101, 102, 103, 104, 105, 2].getD i 0) (fun i => [IsEl na, (· = .int .u32 m), (· = .int .u64 m), (· = .int .u32 n), (· = .int .u64 n), (· = .int .u64 ((m + n : Nat) : Int)), (· = .agg (vals (bytesN (m + n)))), IsEl (pm * pn), IsEl pm, IsEl pn, IsEl (pm * pn), (· = .bool true), (· = .bool true), IsEl na, IsEl nb, IsEl (na * nb), (· = .int .u32 m), (· = .int .u64 m), (· = .agg (vals (bytesN m))), IsEl (pm * qm), IsEl pm, IsEl nb, (· = .int .u32 m), (· = .int .u64 m), (· = .agg (vals (bytesN m))), IsEl qm, IsEl (pm * qm), (· = .bool true), (· = .bool true), (· = .bool true), IsEl pm, (· = .int .u32 n), (· = .int .u64 n), (· = .agg (vals (bytesN n))), IsEl pk, IsEl na, (· = .int .u32 m), (· = .int .u64 m), (· = .int .u32 n), (· = .int .u64 n), (· = .int .u64 ((m * n : Nat) : Int)), (· = .agg (vals (bytesN (m * n)))), IsEl pk, (· = .bool true), (· = .bool true), (· = .bool true)].getD i (fun _ => True)) (fun w' => ElAt na gx w' ∧ ElAt nb gy w' ∧ ElAt pm gp w' ∧ ElAt pn gq w' ∧ Below w.heap.size w w' ∧ M ≤ w'.heap.size)
      (by kernel_rfl) (by kernel_rfl) (by kernel_rfl) (slots_apart (by kernel_rfl)) (slots_lie (by rw [HS]; kernel_rfl)) ⟨hS.1, hS.2.1, hS.2.2.1, hS.2.2.2.1, (hS.2.2.2.2).drew, Nat.le_of_eq hM⟩ (fun w1 w2 h b => ⟨(h.1).keep b, (h.2.1).keep b, (h.2.2.1).keep b, (h.2.2.2.1).keep b, below_call b h.2.2.2.2.1, Nat.le_trans h.2.2.2.2.2 b.size⟩) ?_ ?_
    · clear hS
      intro i o hi ho
      have hc : i = 0 ∨ i = 1 ∨ i = 2 ∨ i = 3 ∨ i = 4 ∨ i = 5 ∨ i = 6 ∨ i = 7 ∨ i = 8 ∨ i = 9 ∨ i = 10 ∨ i = 11 ∨ i = 12 ∨ i = 13 ∨ i = 14 ∨ i = 15 ∨ i = 16 ∨ i = 17 ∨ i = 18 ∨ i = 19 ∨ i = 20 ∨ i = 21 ∨ i = 22 ∨ i = 23 ∨ i = 24 ∨ i = 25 ∨ i = 26 ∨ i = 27 ∨ i = 28 ∨ i = 29 ∨ i = 30 ∨ i = 31 ∨ i = 32 ∨ i = 33 ∨ i = 34 ∨ i = 35 ∨ i = 36 ∨ i = 37 ∨ i = 38 ∨ i = 39 ∨ i = 40 ∨ i = 41 ∨ i = 42 ∨ i = 43 ∨ i = 44 ∨ i = 45 := by omega
      rcases hc with rfl | rfl | rfl | rfl | rfl | rfl | rfl | rfl | rfl | rfl | rfl | rfl | rfl | rfl | rfl | rfl | rfl | rfl | rfl | rfl | rfl | rfl | rfl | rfl | rfl | rfl | rfl | rfl | rfl | rfl | rfl | rfl | rfl | rfl | rfl | rfl | rfl | rfl | rfl | rfl | rfl | rfl | rfl | rfl | rfl | rfl
      · obtain rfl := Option.some.inj ho
        refine ⟨rfl, fun a w' hS hold hin K hK => ?_⟩
        refine if_always rfl ?_
        exact op_ld_el (.tmp 7) rfl rfl _ (eval_tmp ((hold 7 (slots_not (by kernel_rfl))).trans h7)) hS.1 hK
      · obtain rfl := Option.some.inj ho
        refine ⟨rfl, fun a w' hS hold hin K hK => ?_⟩
        refine if_always rfl ?_
        exact op_move (V := (· = .int .u32 m)) _ _ rfl rfl (eval_tmp ((hold 5 (slots_not (by kernel_rfl))).trans h5)) rfl hK
      · obtain rfl := Option.some.inj ho
        refine ⟨rfl, fun a w' hS hold hin K hK => ?_⟩
        obtain ⟨y1, x1, rfl⟩ := hin 1 rfl (by omega)
        refine if_always rfl ?_
        exact op_conv3264 _ m rfl rfl (eval_tmp x1) (by omega) hK
      · obtain rfl := Option.some.inj ho
        refine ⟨rfl, fun a w' hS hold hin K hK => ?_⟩
        refine if_always rfl ?_
        exact op_move (V := (· = .int .u32 n)) _ _ rfl rfl (eval_tmp ((hold 6 (slots_not (by kernel_rfl))).trans h6)) rfl hK
      · obtain rfl := Option.some.inj ho
        refine ⟨rfl, fun a w' hS hold hin K hK => ?_⟩
        obtain ⟨y3, x3, rfl⟩ := hin 3 rfl (by omega)
        refine if_always rfl ?_
        exact op_conv3264 _ n rfl rfl (eval_tmp x3) (by omega) hK
      · obtain rfl := Option.some.inj ho
        refine ⟨rfl, fun a w' hS hold hin K hK => ?_⟩
        obtain ⟨y2, x2, rfl⟩ := hin 2 rfl (by omega)
        obtain ⟨y4, x4, rfl⟩ := hin 4 rfl (by omega)
        refine if_always rfl ?_
        exact op_bin (V := (· = .int .u64 ((m + n : Nat) : Int))) _ _ _ _ _ _ _ (.int .u64 ((m + n : Nat) : Int)) rfl rfl (eval_tmp x2) (eval_tmp x4) (fun w => add_u64 m n Hb3.out w) rfl hK
      · obtain rfl := Option.some.inj ho
        refine ⟨rfl, fun a w' hS hold hin K hK => ?_⟩
        obtain ⟨y5, x5, rfl⟩ := hin 5 rfl (by omega)
        refine if_always rfl ?_
        exact op_fn1 _ _ _ _ rfl rfl (eval_tmp x5) (by intro args w; kernel_rfl) (number_any (m + n) _ Hb3.out) hK
      · obtain rfl := Option.some.inj ho
        refine ⟨rfl, fun a w' hS hold hin K hK => ?_⟩
        obtain ⟨y0, x0, (v0 : IsEl na y0)⟩ := hin 0 rfl (by omega)
        obtain ⟨y6, x6, rfl⟩ := hin 6 rfl (by omega)
        refine if_always rfl ?_
        exact op_fn2 _ _ _ _ _ _ rfl rfl (eval_tmp x0) (eval_tmp x6) (by intro args w; kernel_rfl) (power_ev v0 (m + n) Hb5.out Hea.out _) hK
      · obtain rfl := Option.some.inj ho
        refine ⟨rfl, fun a w' hS hold hin K hK => ?_⟩
        refine if_always rfl ?_
        exact op_ld_el (.tmp 9) rfl rfl _ (eval_tmp ((hold 9 (slots_not (by kernel_rfl))).trans h9)) hS.2.2.1 hK
      · obtain rfl := Option.some.inj ho
        refine ⟨rfl, fun a w' hS hold hin K hK => ?_⟩
        refine if_always rfl ?_
        exact op_ld_el (.tmp 10) rfl rfl _ (eval_tmp ((hold 10 (slots_not (by kernel_rfl))).trans h10)) hS.2.2.2.1 hK
      · obtain rfl := Option.some.inj ho
        refine ⟨rfl, fun a w' hS hold hin K hK => ?_⟩
        obtain ⟨y8, x8, (v8 : IsEl pm y8)⟩ := hin 8 rfl (by omega)
        obtain ⟨y9, x9, (v9 : IsEl pn y9)⟩ := hin 9 rfl (by omega)
        refine if_always rfl ?_
        exact op_fn2 _ _ _ _ _ _ rfl rfl (eval_tmp x8) (eval_tmp x9) (by intro args w; kernel_rfl) (mul_el v8 v9 _) hK
      · obtain rfl := Option.some.inj ho
        refine ⟨rfl, fun a w' hS hold hin K hK => ?_⟩
        obtain ⟨y7, x7, (v7 : IsEl (pm * pn) y7)⟩ := hin 7 rfl (by omega)
        obtain ⟨y10, x10, (v10 : IsEl (pm * pn) y10)⟩ := hin 10 rfl (by omega)
        refine if_always rfl ?_
        exact op_fn2 _ _ _ _ _ _ rfl rfl (eval_tmp x7) (eval_tmp x10) (by intro args w; kernel_rfl) (one_el v7 v10 rfl _) hK
      · obtain rfl := Option.some.inj ho
        refine ⟨rfl, fun a w' hS hold hin K hK => ?_⟩
        obtain ⟨y11, x11, rfl⟩ := hin 11 rfl (by omega)
        refine if_always rfl ?_
        exact op_move (V := (· = .bool true)) _ _ rfl rfl (eval_tmp x11) rfl hK
      · obtain rfl := Option.some.inj ho
        refine ⟨rfl, fun a w' hS hold hin K hK => ?_⟩
        obtain ⟨y12, x12, rfl⟩ := hin 12 rfl (by omega)
        refine if_guard (d := 73) rfl rfl x12 ?_
        exact op_ld_el (.tmp 7) rfl rfl _ (eval_tmp ((hold 7 (slots_not (by kernel_rfl))).trans h7)) hS.1 hK
      · obtain rfl := Option.some.inj ho
        refine ⟨rfl, fun a w' hS hold hin K hK => ?_⟩
        obtain ⟨y12, x12, rfl⟩ := hin 12 rfl (by omega)
        refine if_guard (d := 73) rfl rfl x12 ?_
        exact op_ld_el (.tmp 8) rfl rfl _ (eval_tmp ((hold 8 (slots_not (by kernel_rfl))).trans h8)) hS.2.1 hK
      · obtain rfl := Option.some.inj ho
        refine ⟨rfl, fun a w' hS hold hin K hK => ?_⟩
        obtain ⟨y12, x12, rfl⟩ := hin 12 rfl (by omega)
        obtain ⟨y13, x13, (v13 : IsEl na y13)⟩ := hin 13 rfl (by omega)
        obtain ⟨y14, x14, (v14 : IsEl nb y14)⟩ := hin 14 rfl (by omega)
        refine if_guard (d := 73) rfl rfl x12 ?_
        exact op_fn2 _ _ _ _ _ _ rfl rfl (eval_tmp x13) (eval_tmp x14) (by intro args w; kernel_rfl) (mul_el v13 v14 _) hK
      · obtain rfl := Option.some.inj ho
        refine ⟨rfl, fun a w' hS hold hin K hK => ?_⟩
        obtain ⟨y12, x12, rfl⟩ := hin 12 rfl (by omega)
        refine if_guard (d := 73) rfl rfl x12 ?_
        exact op_move (V := (· = .int .u32 m)) _ _ rfl rfl (eval_tmp ((hold 5 (slots_not (by kernel_rfl))).trans h5)) rfl hK
      · obtain rfl := Option.some.inj ho
        refine ⟨rfl, fun a w' hS hold hin K hK => ?_⟩
        obtain ⟨y12, x12, rfl⟩ := hin 12 rfl (by omega)
        obtain ⟨y16, x16, rfl⟩ := hin 16 rfl (by omega)
        refine if_guard (d := 73) rfl rfl x12 ?_
        exact op_conv3264 _ m rfl rfl (eval_tmp x16) (by omega) hK
      · obtain rfl := Option.some.inj ho
        refine ⟨rfl, fun a w' hS hold hin K hK => ?_⟩
        obtain ⟨y12, x12, rfl⟩ := hin 12 rfl (by omega)
        obtain ⟨y17, x17, rfl⟩ := hin 17 rfl (by omega)
        refine if_guard (d := 73) rfl rfl x12 ?_
        exact op_fn1 _ _ _ _ rfl rfl (eval_tmp x17) (by intro args w; kernel_rfl) (number_any m _ Hb7.out) hK
      · obtain rfl := Option.some.inj ho
        refine ⟨rfl, fun a w' hS hold hin K hK => ?_⟩
        obtain ⟨y12, x12, rfl⟩ := hin 12 rfl (by omega)
        obtain ⟨y15, x15, (v15 : IsEl (na * nb) y15)⟩ := hin 15 rfl (by omega)
        obtain ⟨y18, x18, rfl⟩ := hin 18 rfl (by omega)
        refine if_guard (d := 73) rfl rfl x12 ?_
        exact op_fn2 _ _ _ _ _ _ rfl rfl (eval_tmp x15) (eval_tmp x18) (by intro args w; kernel_rfl) (power_ev v15 m Hb1.out Heb.out _) hK
      · obtain rfl := Option.some.inj ho
        refine ⟨rfl, fun a w' hS hold hin K hK => ?_⟩
        obtain ⟨y12, x12, rfl⟩ := hin 12 rfl (by omega)
        refine if_guard (d := 73) rfl rfl x12 ?_
        exact op_ld_el (.tmp 9) rfl rfl _ (eval_tmp ((hold 9 (slots_not (by kernel_rfl))).trans h9)) hS.2.2.1 hK
      · obtain rfl := Option.some.inj ho
        refine ⟨rfl, fun a w' hS hold hin K hK => ?_⟩
        obtain ⟨y12, x12, rfl⟩ := hin 12 rfl (by omega)
        refine if_guard (d := 73) rfl rfl x12 ?_
        exact op_ld_el (.tmp 8) rfl rfl _ (eval_tmp ((hold 8 (slots_not (by kernel_rfl))).trans h8)) hS.2.1 hK
      · obtain rfl := Option.some.inj ho
        refine ⟨rfl, fun a w' hS hold hin K hK => ?_⟩
        obtain ⟨y12, x12, rfl⟩ := hin 12 rfl (by omega)
        refine if_guard (d := 73) rfl rfl x12 ?_
        exact op_move (V := (· = .int .u32 m)) _ _ rfl rfl (eval_tmp ((hold 5 (slots_not (by kernel_rfl))).trans h5)) rfl hK
      · obtain rfl := Option.some.inj ho
        refine ⟨rfl, fun a w' hS hold hin K hK => ?_⟩
        obtain ⟨y12, x12, rfl⟩ := hin 12 rfl (by omega)
        obtain ⟨y22, x22, rfl⟩ := hin 22 rfl (by omega)
        refine if_guard (d := 73) rfl rfl x12 ?_
        exact op_conv3264 _ m rfl rfl (eval_tmp x22) (by omega) hK
      · obtain rfl := Option.some.inj ho
        refine ⟨rfl, fun a w' hS hold hin K hK => ?_⟩
        obtain ⟨y12, x12, rfl⟩ := hin 12 rfl (by omega)
        obtain ⟨y23, x23, rfl⟩ := hin 23 rfl (by omega)
        refine if_guard (d := 73) rfl rfl x12 ?_
        exact op_fn1 _ _ _ _ rfl rfl (eval_tmp x23) (by intro args w; kernel_rfl) (number_any m _ Hb7.out) hK
      · obtain rfl := Option.some.inj ho
        refine ⟨rfl, fun a w' hS hold hin K hK => ?_⟩
        obtain ⟨y12, x12, rfl⟩ := hin 12 rfl (by omega)
        obtain ⟨y21, x21, (v21 : IsEl nb y21)⟩ := hin 21 rfl (by omega)
        obtain ⟨y24, x24, rfl⟩ := hin 24 rfl (by omega)
        refine if_guard (d := 73) rfl rfl x12 ?_
        exact op_fn2 _ _ _ _ _ _ rfl rfl (eval_tmp x21) (eval_tmp x24) (by intro args w; kernel_rfl) (power_ev v21 m Hb1.out Hhqm.out _) hK
      · obtain rfl := Option.some.inj ho
        refine ⟨rfl, fun a w' hS hold hin K hK => ?_⟩
        obtain ⟨y12, x12, rfl⟩ := hin 12 rfl (by omega)
        obtain ⟨y20, x20, (v20 : IsEl pm y20)⟩ := hin 20 rfl (by omega)
        obtain ⟨y25, x25, (v25 : IsEl qm y25)⟩ := hin 25 rfl (by omega)
        refine if_guard (d := 73) rfl rfl x12 ?_
        exact op_fn2 _ _ _ _ _ _ rfl rfl (eval_tmp x20) (eval_tmp x25) (by intro args w; kernel_rfl) (mul_el v20 v25 _) hK
      · obtain rfl := Option.some.inj ho
        refine ⟨rfl, fun a w' hS hold hin K hK => ?_⟩
        obtain ⟨y12, x12, rfl⟩ := hin 12 rfl (by omega)
        obtain ⟨y19, x19, (v19 : IsEl (pm * qm) y19)⟩ := hin 19 rfl (by omega)
        obtain ⟨y26, x26, (v26 : IsEl (pm * qm) y26)⟩ := hin 26 rfl (by omega)
        refine if_guard (d := 73) rfl rfl x12 ?_
        exact op_fn2 _ _ _ _ _ _ rfl rfl (eval_tmp x19) (eval_tmp x26) (by intro args w; kernel_rfl) (one_el v19 v26 rfl _) hK
      · obtain rfl := Option.some.inj ho
        refine ⟨rfl, fun a w' hS hold hin K hK => ?_⟩
        obtain ⟨y12, x12, rfl⟩ := hin 12 rfl (by omega)
        obtain ⟨y27, x27, rfl⟩ := hin 27 rfl (by omega)
        refine if_always rfl ?_
        exact op_pick (V := (· = .bool true)) _ _ _ true _ rfl rfl (eval_tmp x12) (show (Act.eval a _) = _ from (eval_tmp x27)) rfl hK
      · obtain rfl := Option.some.inj ho
        refine ⟨rfl, fun a w' hS hold hin K hK => ?_⟩
        obtain ⟨y28, x28, rfl⟩ := hin 28 rfl (by omega)
        refine if_always rfl ?_
        exact op_move (V := (· = .bool true)) _ _ rfl rfl (eval_tmp x28) rfl hK
      · obtain rfl := Option.some.inj ho
        refine ⟨rfl, fun a w' hS hold hin K hK => ?_⟩
        obtain ⟨y29, x29, rfl⟩ := hin 29 rfl (by omega)
        refine if_guard (d := 90) rfl rfl x29 ?_
        exact op_ld_el (.tmp 9) rfl rfl _ (eval_tmp ((hold 9 (slots_not (by kernel_rfl))).trans h9)) hS.2.2.1 hK
      · obtain rfl := Option.some.inj ho
        refine ⟨rfl, fun a w' hS hold hin K hK => ?_⟩
        obtain ⟨y29, x29, rfl⟩ := hin 29 rfl (by omega)
        refine if_guard (d := 90) rfl rfl x29 ?_
        exact op_move (V := (· = .int .u32 n)) _ _ rfl rfl (eval_tmp ((hold 6 (slots_not (by kernel_rfl))).trans h6)) rfl hK
      · obtain rfl := Option.some.inj ho
        refine ⟨rfl, fun a w' hS hold hin K hK => ?_⟩
        obtain ⟨y29, x29, rfl⟩ := hin 29 rfl (by omega)
        obtain ⟨y31, x31, rfl⟩ := hin 31 rfl (by omega)
        refine if_guard (d := 90) rfl rfl x29 ?_
        exact op_conv3264 _ n rfl rfl (eval_tmp x31) (by omega) hK
      · obtain rfl := Option.some.inj ho
        refine ⟨rfl, fun a w' hS hold hin K hK => ?_⟩
        obtain ⟨y29, x29, rfl⟩ := hin 29 rfl (by omega)
        obtain ⟨y32, x32, rfl⟩ := hin 32 rfl (by omega)
        refine if_guard (d := 90) rfl rfl x29 ?_
        exact op_fn1 _ _ _ _ rfl rfl (eval_tmp x32) (by intro args w; kernel_rfl) (number_any n _ Hb8.out) hK
      · obtain rfl := Option.some.inj ho
        refine ⟨rfl, fun a w' hS hold hin K hK => ?_⟩
        obtain ⟨y29, x29, rfl⟩ := hin 29 rfl (by omega)
        obtain ⟨y30, x30, (v30 : IsEl pm y30)⟩ := hin 30 rfl (by omega)
        obtain ⟨y33, x33, rfl⟩ := hin 33 rfl (by omega)
        refine if_guard (d := 90) rfl rfl x29 ?_
        exact op_fn2 _ _ _ _ _ _ rfl rfl (eval_tmp x30) (eval_tmp x33) (by intro args w; kernel_rfl) (power_ev v30 n Hb2.out Hhpk.out _) hK
      · obtain rfl := Option.some.inj ho
        refine ⟨rfl, fun a w' hS hold hin K hK => ?_⟩
        obtain ⟨y29, x29, rfl⟩ := hin 29 rfl (by omega)
        refine if_guard (d := 90) rfl rfl x29 ?_
        exact op_ld_el (.tmp 7) rfl rfl _ (eval_tmp ((hold 7 (slots_not (by kernel_rfl))).trans h7)) hS.1 hK
      · obtain rfl := Option.some.inj ho
        refine ⟨rfl, fun a w' hS hold hin K hK => ?_⟩
        obtain ⟨y29, x29, rfl⟩ := hin 29 rfl (by omega)
        refine if_guard (d := 90) rfl rfl x29 ?_
        exact op_move (V := (· = .int .u32 m)) _ _ rfl rfl (eval_tmp ((hold 5 (slots_not (by kernel_rfl))).trans h5)) rfl hK
      · obtain rfl := Option.some.inj ho
        refine ⟨rfl, fun a w' hS hold hin K hK => ?_⟩
        obtain ⟨y29, x29, rfl⟩ := hin 29 rfl (by omega)
        obtain ⟨y36, x36, rfl⟩ := hin 36 rfl (by omega)
        refine if_guard (d := 90) rfl rfl x29 ?_
        exact op_conv3264 _ m rfl rfl (eval_tmp x36) (by omega) hK
      · obtain rfl := Option.some.inj ho
        refine ⟨rfl, fun a w' hS hold hin K hK => ?_⟩
        obtain ⟨y29, x29, rfl⟩ := hin 29 rfl (by omega)
        refine if_guard (d := 90) rfl rfl x29 ?_
        exact op_move (V := (· = .int .u32 n)) _ _ rfl rfl (eval_tmp ((hold 6 (slots_not (by kernel_rfl))).trans h6)) rfl hK
      · obtain rfl := Option.some.inj ho
        refine ⟨rfl, fun a w' hS hold hin K hK => ?_⟩
        obtain ⟨y29, x29, rfl⟩ := hin 29 rfl (by omega)
        obtain ⟨y38, x38, rfl⟩ := hin 38 rfl (by omega)
        refine if_guard (d := 90) rfl rfl x29 ?_
        exact op_conv3264 _ n rfl rfl (eval_tmp x38) (by omega) hK
      · obtain rfl := Option.some.inj ho
        refine ⟨rfl, fun a w' hS hold hin K hK => ?_⟩
        obtain ⟨y29, x29, rfl⟩ := hin 29 rfl (by omega)
        obtain ⟨y37, x37, rfl⟩ := hin 37 rfl (by omega)
        obtain ⟨y39, x39, rfl⟩ := hin 39 rfl (by omega)
        refine if_guard (d := 90) rfl rfl x29 ?_
        exact op_bin (V := (· = .int .u64 ((m * n : Nat) : Int))) _ _ _ _ _ _ _ (.int .u64 ((m * n : Nat) : Int)) rfl rfl (eval_tmp x37) (eval_tmp x39) (fun w => mul_u64 m n Hb4.out w) rfl hK
      · obtain rfl := Option.some.inj ho
        refine ⟨rfl, fun a w' hS hold hin K hK => ?_⟩
        obtain ⟨y29, x29, rfl⟩ := hin 29 rfl (by omega)
        obtain ⟨y40, x40, rfl⟩ := hin 40 rfl (by omega)
        refine if_guard (d := 90) rfl rfl x29 ?_
        exact op_fn1 _ _ _ _ rfl rfl (eval_tmp x40) (by intro args w; kernel_rfl) (number_any (m * n) _ Hb4.out) hK
      · obtain rfl := Option.some.inj ho
        refine ⟨rfl, fun a w' hS hold hin K hK => ?_⟩
        obtain ⟨y29, x29, rfl⟩ := hin 29 rfl (by omega)
        obtain ⟨y35, x35, (v35 : IsEl na y35)⟩ := hin 35 rfl (by omega)
        obtain ⟨y41, x41, rfl⟩ := hin 41 rfl (by omega)
        refine if_guard (d := 90) rfl rfl x29 ?_
        exact op_fn2 _ _ _ _ _ _ rfl rfl (eval_tmp x35) (eval_tmp x41) (by intro args w; kernel_rfl) (power_ev v35 (m * n) Hb6.out Hem.out _) hK
      · obtain rfl := Option.some.inj ho
        refine ⟨rfl, fun a w' hS hold hin K hK => ?_⟩
        obtain ⟨y29, x29, rfl⟩ := hin 29 rfl (by omega)
        obtain ⟨y34, x34, (v34 : IsEl pk y34)⟩ := hin 34 rfl (by omega)
        obtain ⟨y42, x42, (v42 : IsEl pk y42)⟩ := hin 42 rfl (by omega)
        refine if_guard (d := 90) rfl rfl x29 ?_
        exact op_fn2 _ _ _ _ _ _ rfl rfl (eval_tmp x34) (eval_tmp x42) (by intro args w; kernel_rfl) (one_el v34 v42 rfl _) hK
      · obtain rfl := Option.some.inj ho
        refine ⟨rfl, fun a w' hS hold hin K hK => ?_⟩
        obtain ⟨y29, x29, rfl⟩ := hin 29 rfl (by omega)
        obtain ⟨y43, x43, rfl⟩ := hin 43 rfl (by omega)
        refine if_always rfl ?_
        exact op_pick (V := (· = .bool true)) _ _ _ true _ rfl rfl (eval_tmp x29) (show (Act.eval a _) = _ from (eval_tmp x43)) rfl hK
      · obtain rfl := Option.some.inj ho
        refine ⟨rfl, fun a w' hS hold hin K hK => ?_⟩
        obtain ⟨y44, x44, rfl⟩ := hin 44 rfl (by omega)
        refine if_always rfl ?_
        exact op_assign (V := (· = .bool true)) _ _ rfl rfl (eval_tmp x44) rfl hK
    clear hS
    intro t1 W4 hs hold hout hS
    replace HS := hs.trans HS
    obtain ⟨_, q2, rfl⟩ : ∃ x, t1[2]? = some x ∧ x = (.bool true : Value) := hout 45 (by omega)
    obtain ⟨f, e0, hf⟩ := wash HS
    have f2 := hf 2 _ q2
    have f5 := hf 5 _ ((hold 5 (slots_not (by kernel_rfl))).trans h5)
    have f6 := hf 6 _ ((hold 6 (slots_not (by kernel_rfl))).trans h6)
    have f7 := hf 7 _ ((hold 7 (slots_not (by kernel_rfl))).trans h7)
    have f8 := hf 8 _ ((hold 8 (slots_not (by kernel_rfl))).trans h8)
    have f50 := hf 50 _ ((hold 50 (slots_not (by kernel_rfl))).trans h50)
    have f9 := hf 9 _ ((hold 9 (slots_not (by kernel_rfl))).trans h9)
    have f10 := hf 10 _ ((hold 10 (slots_not (by kernel_rfl))).trans h10)
    clear hf
    rw [e0.trans (show _ = #[f 0, f 1, f 2, f 3, f 4, f 5, f 6, f 7, f 8, f 9, f 10, f 11, f 12, f 13, f 14, f 15, f 16, f 17, f 18, f 19, f 20, f 21, f 22, f 23, f 24, f 25, f 26, f 27, f 28, f 29, f 30, f 31, f 32, f 33, f 34, f 35, f 36, f 37, f 38, f 39, f 40, f 41, f 42, f 43, f 44, f 45, f 46, f 47, f 48, f 49, f 50, f 51, f 52, f 53, f 54, f 55, f 56, f 57, f 58, f 59, f 60, f 61, f 62, f 63, f 64, f 65, f 66, f 67, f 68, f 69, f 70, f 71, f 72, f 73, f 74, f 75, f 76, f 77, f 78, f 79, f 80, f 81, f 82, f 83, f 84, f 85, f 86, f 87, f 88, f 89, f 90, f 91, f 92, f 93, f 94, f 95, f 96, f 97, f 98, f 99, f 100, f 101, f 102, f 103, f 104, f 105] from by kernel_rfl), f2, f5, f6, f7, f8, f50, f9, f10]
    clear f2 f5 f6 f7 f8 f50 f9 f10
    clear e0
    dsimp only
    clear h5 h6 h7 h8 h50 h9 h10 q2 hold hout hs HS t1 t0
    have hS' := hS
    clear hS
    have hS : ElAt na gx W4 ∧ ElAt nb gy W4 ∧ ElAt pm gp W4 ∧ ElAt pn gq W4 ∧ Below w.heap.size w W4 := ⟨hS'.1, hS'.2.1, hS'.2.2.1, hS'.2.2.2.1, hS'.2.2.2.2.1⟩
    clear hS' lt0 lt1 lt2 lt3
    clear hM
    clear M
    go_wp2_with fail
    go_returns
    exact ⟨rfl, hS.2.2.2.2⟩
end Go.Proofs.Ytciakfhjjnmeeaa
