/- A config is read: codec.ParseConfig. Condition: memory can hold the bytes. -/
import Derived.Test.YtmochmpamgfboabDoorCodD
namespace Go.Proofs.YtmochmpamgfboabDoor
open Go.RowKit
section
variable {b w : World} {L : List (Nat × Nat × (Value → Prop))}
theorem Own.rowV (h : Own b L w) {i g n : Nat} {c : Array Value} (hi : L[i]? = some (g, n, (· = .agg c))) : ∃ t, w.heap[g]? = some (.cells c t (0, 0)) := by
  obtain ⟨cs, t, h1, _, h3⟩ := h.get hi
  injection h3 with h3
  subst h3
  exact ⟨t, h1⟩
theorem Own.cellV (h : Own b L w) {i g n : Nat} {c c' : Array Value} (hi : L[i]? = some (g, n, (· = .agg c))) (k : Nat) (v : Value) (hc : c.setIfInBounds k v = c') : Own b (L.set i (g, n, (· = .agg c'))) (w.setCell ⟨g, k, none⟩ v) :=
  h.cell hi k _ fun cs _ hcs => by
    injection hcs with hcs
    subst hcs
    exact congrArg Value.agg hc
end
theorem held_fnE {P : Program} {ops : Array Oper} {rest : List Oper} {o : Oper} {Q : Exit → Act → World → Prop} {a : Act} {w : World} (f : FuncId) (args : Array Operand) (tys : Array TypeId) (_ : o.op = .call { callee := .value (.func f), args := args, argTypes := tys }) (h : Held (wpList P ops Q (o :: rest) a w)) : wpList P ops Q (o :: rest) a w := h
theorem held_buildE {P : Program} {ops : Array Oper} {rest : List Oper} {o : Oper} {Q : Exit → Act → World → Prop} {a : Act} {w : World} (t : TypeId) (ps : Array (Nat × Operand)) (_ : o.op = .build t ps) (h : Held (wpList P ops Q (o :: rest) a w)) : wpList P ops Q (o :: rest) a w := h
theorem by_confE {a0 a1 a2 a3 a4 a5 : Int} : ∀ x : Value, x = .agg #[.int .i64 a0, .int .i64 a1, .int .i64 a2, .int .i64 a3, .int .i64 a4, .int .i64 a5] → ∃ cs, x = .agg cs ∧ cs.size = 6 ∧ cs.all (·.oneCell') = true := fun _ h => ⟨_, h, rfl, by simp [Value.oneCell']⟩
/-- The number at place 4k. -/
def numAt (l : List Int) (k : Nat) : Int := num ((l.drop (4 * k)).take 4)
/-- What ParseConfig answers. -/
def parsed (l : List Int) : Value :=
  if l.length = 24 then
    (if good (numAt l 0) (numAt l 1) (numAt l 2) (numAt l 3) (numAt l 4) (numAt l 5) = true then .tuple #[.agg #[.int .i64 (numAt l 0), .int .i64 (numAt l 1), .int .i64 (numAt l 2), .int .i64 (numAt l 3), .int .i64 (numAt l 4), .int .i64 (numAt l 5)], .int .i64 0] else .tuple #[.agg #[.int .i64 0, .int .i64 0, .int .i64 0, .int .i64 0, .int .i64 0, .int .i64 0], .int .i64 200])
  else .tuple #[.agg #[.int .i64 0, .int .i64 0, .int .i64 0, .int .i64 0, .int .i64 0, .int .i64 0], .int .i64 4]
theorem numAt_len {l : List Int} (h : l.length = 24) (k : Nat) (hk : k < 6) : ((l.drop (4 * k)).take 4).length = 4 := by simp [h]; omega
theorem numAt_bound {l : List Int} (h : l.length = 24) (hb : Byt l) (k : Nat) (hk : k < 6) : 0 ≤ numAt l k ∧ numAt l k < 4294967296 := by
  have := num_bound _ ((hb.drop (4 * k)).take 4)
  rw [numAt_len h k hk] at this
  exact ⟨this.1, by simpa [numAt] using this.2⟩
theorem fillV (T Z : List Value) (k : Nat) (v : Value) (hv : T[k]? = some v) (hk : k < Z.length) (hl : T.length = Z.length) : (T.take k ++ Z.drop k).toArray.setIfInBounds k v = (T.take (k + 1) ++ Z.drop (k + 1)).toArray := by
  have h1 : (T.take k).length = k := by rw [List.length_take]; omega
  have hk' : k < T.length := by omega
  have e : T.take (k + 1) = T.take k ++ [v] := by
    rw [List.take_succ_eq_append_getElem hk']
    congr 1
    rw [List.getElem?_eq_getElem hk'] at hv
    injection hv with hv
    rw [hv]
  rw [List.setIfInBounds_toArray, List.set_append_right _ _ (by omega), h1, Nat.sub_self, List.drop_eq_getElem_cons hk, List.set_cons_zero, e, List.append_assoc]
  rfl
/-- What is left in the reader, k numbers taken. -/
def restV (g k : Nat) : Value := .slice (some (if k = 6 then ⟨g, 20, none⟩ else ⟨g, 4 * k, none⟩)) (24 - 4 * k) (24 - 4 * k)
theorem rest_step (g k : Nat) (h : k < 6) : Value.slice (some (if 24 - 4 * k = 4 then ⟨g, 4 * k, none⟩ else ⟨g, 4 * k + 4, none⟩)) (24 - 4 * k - 4) (24 - 4 * k - 4) = restV g (k + 1) := by
  rcases (show k = 0 ∨ k = 1 ∨ k = 2 ∨ k = 3 ∨ k = 4 ∨ k = 5 by omega) with rfl | rfl | rfl | rfl | rfl | rfl <;> rfl
def ptrs (g : Nat) : Array Value := #[.pointer (some ⟨g, 0, none⟩), .pointer (some ⟨g, 1, none⟩), .pointer (some ⟨g, 2, none⟩), .pointer (some ⟨g, 3, none⟩), .pointer (some ⟨g, 4, none⟩), .pointer (some ⟨g, 5, none⟩)]
theorem ptr_at (g k : Nat) (h : k < 6) : (ptrs g)[k]? = some (.pointer (some ⟨g, k, none⟩)) := by
  rcases (show k = 0 ∨ k = 1 ∨ k = 2 ∨ k = 3 ∨ k = 4 ∨ k = 5 by omega) with rfl | rfl | rfl | rfl | rfl | rfl <;> rfl
def confV (l : List Int) : List Value := [.int .i64 (numAt l 0), .int .i64 (numAt l 1), .int .i64 (numAt l 2), .int .i64 (numAt l 3), .int .i64 (numAt l 4), .int .i64 (numAt l 5)]
def zeroV : List Value := [.int .i64 0, .int .i64 0, .int .i64 0, .int .i64 0, .int .i64 0, .int .i64 0]
theorem conf_at (l : List Int) (k : Nat) (h : k < 6) : (confV l)[k]? = some (.int .i64 (numAt l k)) := by
  rcases (show k = 0 ∨ k = 1 ∨ k = 2 ∨ k = 3 ∨ k = 4 ∨ k = 5 by omega) with rfl | rfl | rfl | rfl | rfl | rfl <;> rfl
theorem mid_at (l : List Int) (k : Nat) (h : k < 6) : ((confV l).take k ++ zeroV.drop k).toArray[k]? = some (.int .i64 0) := by
  rcases (show k = 0 ∨ k = 1 ∨ k = 2 ∨ k = 3 ∨ k = 4 ∨ k = 5 by omega) with rfl | rfl | rfl | rfl | rfl | rfl <;> rfl
theorem check_yesE {n0 n1 n2 n3 n4 n5 : Int} (h : good n0 n1 n2 n3 n4 n5 = true) (w : World) : Calls Tryd.prog 9 #[.agg #[.int .i64 n0, .int .i64 n1, .int .i64 n2, .int .i64 n3, .int .i64 n4, .int .i64 n5]] w (Gives (· = .int .i64 0) w) :=
  (check20_any n0 n1 n2 n3 n4 n5 w).mono fun _ _ ⟨r, e1, e2, e3⟩ => ⟨r, e1, by rw [if_pos h] at e2; exact e2, e3⟩
theorem check_noE {n0 n1 n2 n3 n4 n5 : Int} (h : ¬ good n0 n1 n2 n3 n4 n5 = true) (w : World) : Calls Tryd.prog 9 #[.agg #[.int .i64 n0, .int .i64 n1, .int .i64 n2, .int .i64 n3, .int .i64 n4, .int .i64 n5]] w (Gives (· = .int .i64 200) w) :=
  (check20_any n0 n1 n2 n3 n4 n5 w).mono fun _ _ ⟨r, e1, e2, e3⟩ => ⟨r, e1, by rw [if_neg h] at e2; exact e2, e3⟩
set_option maxHeartbeats 4000000 in
set_option maxRecDepth 100000 in
theorem parseConfig_short (p : Option Addr) (l : List Int) (n c : Nat) (w : World) (hn : l.length = n) (h24 : n ≠ 24) :
    Calls Tryd.prog 19 #[.slice p n c] w (Gives (· = parsed l) w) := by
  have hP : parsed l = .tuple #[.agg #[.int .i64 0, .int .i64 0, .int .i64 0, .int .i64 0, .int .i64 0, .int .i64 0], .int .i64 4] := by rw [parsed, hn, if_neg h24]
  rw [hP]
  clear hP
  have h24' : ¬ ((n : Int) = 24) := by omega
  have hS := (Own.start w).keep ((Below.refl _ _).alloc (Nat.le_refl _) (.cells #[.int .i64 0, .int .i64 0, .int .i64 0, .int .i64 0, .int .i64 0, .int .i64 0] 23)) |>.add (g := w.heap.size) (n := 6) (V := fun _ => True) (Nat.le_refl _) (fun r hr => by cases hr) ⟨_, _, heap_alloc_new w _, rfl, trivial⟩
  go_enter Tryd.func19, Tryd.ntmps19
  go_wp2_with ((with_reducible refine guard_list ?_); first | (refine held_buildE _ _ rfl ?_))
  change Held (wpList _ _ _ _ _ (w.alloc (.cells #[.int .i64 0, .int .i64 0, .int .i64 0, .int .i64 0, .int .i64 0, .int .i64 0] 23)))
  generalize w.alloc (.cells #[.int .i64 0, .int .i64 0, .int .i64 0, .int .i64 0, .int .i64 0, .int .i64 0] 23) = W0 at hS ⊢
  obtain ⟨M, hM⟩ : ∃ M, M = W0.heap.size := ⟨_, rfl⟩
  refine hide_held fun t0 HT => ?_
  have HS : t0.size = 40 := by rw [HT]; rfl
  have h2 : t0[2]? = some (.pointer (some ⟨w.heap.size, 0, none⟩)) := by rw [HT]; rfl
  clear HT
  refine wp_list_most 1 (fun i => [12].getD i 0) (fun _ => none) (fun i => [(· = .agg #[.int .i64 0, .int .i64 0, .int .i64 0, .int .i64 0, .int .i64 0, .int .i64 0])].getD i (fun _ => True)) (fun w' => Own w [(w.heap.size, 6, (fun _ => True))] w' ∧ M ≤ w'.heap.size) M
    (by kernel_rfl) (slots_apart (by kernel_rfl)) (slots_lie (by rw [HS]; kernel_rfl)) ⟨hS, Nat.le_of_eq hM⟩ (fun w' h => h.2) (fun w1 w2 h b => ⟨h.1.keep b, Nat.le_trans h.2 b.size⟩) ?_ ?_ ?_
  · clear hS
    intro i o hi ho hA
    have hc : i = 0 := by omega
    rcases hc with rfl
    · obtain rfl := Option.some.inj ho
      refine ⟨rfl, fun a w' hS hold hin K hK => ?_⟩
      refine if_always rfl ?_
      exact op_val (V := (· = .agg #[.int .i64 0, .int .i64 0, .int .i64 0, .int .i64 0, .int .i64 0, .int .i64 0])) (.agg #[.int .i64 0, .int .i64 0, .int .i64 0, .int .i64 0, .int .i64 0, .int .i64 0]) rfl (by kernel_rfl) rfl hK
  · intro i o sz hi ho hA; cases hA
  clear hS
  intro t1 V1 hs hold hout hall hne hS
  replace HS := hs.trans HS
  replace hS := hS.1
  obtain ⟨x12, q12, v12⟩ : ∃ x, t1[12]? = some x ∧ ((· = .agg #[.int .i64 0, .int .i64 0, .int .i64 0, .int .i64 0, .int .i64 0, .int .i64 0])) x := hout 0 (by omega) rfl
  replace q12 : t1[12]? = some (.agg #[.int .i64 0, .int .i64 0, .int .i64 0, .int .i64 0, .int .i64 0, .int .i64 0]) := q12.trans (congrArg some v12)
  replace h2 := (hold 2 (slots_not (by kernel_rfl))).trans h2
  clear hold hout hs hall hne
  simp only [List.drop_succ_cons, List.drop_zero]
  refine st_own 6 tConf rfl (.tmp 2) (.tmp 12) rfl rfl _ _ (eval_tmp h2) (eval_tmp q12) (V' := (· = .agg #[.int .i64 0, .int .i64 0, .int .i64 0, .int .i64 0, .int .i64 0, .int .i64 0])) rfl by_confE hS 0 rfl fun V1' hS' _ => ?_
  replace hS : Own w [(w.heap.size, 6, (· = .agg #[.int .i64 0, .int .i64 0, .int .i64 0, .int .i64 0, .int .i64 0, .int .i64 0]))] V1' := hS'
  clear hS'
  refine tlx_assign _ rfl rfl 3 rfl (by rw [HS]; decide) (.int .i64 4) rfl fun t1 ex0 hz hq he => ?_
  replace h2 := (he 2 (by decide)).trans h2
  replace q12 := (he 12 (by decide)).trans q12
  replace HS := hz.trans HS
  clear hz he ex0
  have h3 := hq
  clear hq
  refine wpList_nil ?_
  obtain ⟨f, e0, hf⟩ := wash HS
  have f2 := hf 2 _ h2
  have f3 := hf 3 _ h3
  clear hf
  rw [e0.trans (show _ = #[f 0, f 1, f 2, f 3, f 4, f 5, f 6, f 7, f 8, f 9, f 10, f 11, f 12, f 13, f 14, f 15, f 16, f 17, f 18, f 19, f 20, f 21, f 22, f 23, f 24, f 25, f 26, f 27, f 28, f 29, f 30, f 31, f 32, f 33, f 34, f 35, f 36, f 37, f 38, f 39] from by kernel_rfl), f2, f3]
  clear f2 f3
  clear e0
  try dsimp only
  clear h2 h3 q12 v12 hM HS t1 t0 M
  obtain ⟨cs, ct, c1, c2, c3⟩ := hS.get (i := 0) rfl
  have hbel := hS.1
  have C3 := Lib.hid c3
  clear hS c3
  go_wp2_with fail
  refine ret_row_tmp rfl _ _ _ rfl c1 6 tConf c2 rfl ?_
  exact ⟨_, rfl, by rw [show Value.agg cs = _ from C3.out]; rfl, hbel⟩
set_option maxHeartbeats 8000000 in
set_option maxRecDepth 100000 in
theorem parseConfig_24 (p : Option Addr) (l : List Int) (c : Nat) (w : World) (hn : l.length = 24) (hb : Byt l) (h : BytesIn w p l) :
    Calls Tryd.prog 19 #[.slice p 24 c] w (Gives (· = parsed l) w) := by
  have hP : parsed l = (if good (numAt l 0) (numAt l 1) (numAt l 2) (numAt l 3) (numAt l 4) (numAt l 5) = true then .tuple #[.agg #[.int .i64 (numAt l 0), .int .i64 (numAt l 1), .int .i64 (numAt l 2), .int .i64 (numAt l 3), .int .i64 (numAt l 4), .int .i64 (numAt l 5)], .int .i64 0] else .tuple #[.agg #[.int .i64 0, .int .i64 0, .int .i64 0, .int .i64 0, .int .i64 0, .int .i64 0], .int .i64 200]) := by rw [parsed, if_pos hn]
  obtain ⟨R, hR⟩ : ∃ R, parsed l = R := ⟨_, rfl⟩
  rw [hR]
  rw [hP] at hR
  have HR := Lib.hid hR
  clear hP hR
  have hS := (Own.start w).keep ((Below.refl _ _).alloc (Nat.le_refl _) (.cells #[.int .i64 0, .int .i64 0, .int .i64 0, .int .i64 0, .int .i64 0, .int .i64 0] 23)) |>.add (g := w.heap.size) (n := 6) (V := fun _ => True) (Nat.le_refl _) (fun r hr => by cases hr) ⟨_, _, heap_alloc_new w _, rfl, trivial⟩
  have HN := Lib.hid hn
  have HB := Lib.hid hb
  have H := Lib.hid h
  clear hn hb h
  go_enter Tryd.func19, Tryd.ntmps19
  go_wp2_with ((with_reducible refine guard_list ?_); first | (refine held_fnE _ _ _ rfl ?_))
  change Held (wpList _ _ _ _ _ (w.alloc (.cells #[.int .i64 0, .int .i64 0, .int .i64 0, .int .i64 0, .int .i64 0, .int .i64 0] 23)))
  generalize w.alloc (.cells #[.int .i64 0, .int .i64 0, .int .i64 0, .int .i64 0, .int .i64 0, .int .i64 0] 23) = W0 at hS ⊢
  refine wpList_step fun K hK => if_always rfl ?_
  refine wp_fn1 _ _ _ _ rfl rfl (by intro args w; kernel_rfl) ((newReader_any p l 24 c W0 HN.out (by omega) (H.out.under hS.1 (Nat.le_refl _)) (by omega)).mono fun e W1 ⟨hbel, g1, g2, t1, t2, he, hne, hg1, hg2, r1, r2⟩ => ⟨_, he, hK _ _ ?_⟩)
  have hS1 := ((hS.keep hbel).add (g := g1) (n := 24) (V := (· = .agg (vals l))) (Nat.le_trans hS.1.size hg1) (fun r hr => Nat.ne_of_lt (Nat.lt_of_lt_of_le (hS.lt r hr) hg1)) ⟨_, _, r1, by rw [vals_size, HN.out], rfl⟩).add (g := g2) (n := 2) (V := (· = .agg #[.slice (some ⟨g1, 0, none⟩) 24 24, .int .i64 0])) (Nat.le_trans hS.1.size hg2) (Own.ne_app (g1 := g1) (fun r hr => Nat.ne_of_lt (Nat.lt_of_lt_of_le (hS.lt r hr) hg2)) hne) ⟨_, _, r2, rfl, rfl⟩
  have HS1 := Lib.hid hS1
  have HNE := Lib.hid hne
  clear hS hS1 hbel hne hg1 hg2 r1 r2
  go_wp2
  have hA := (HS1.out.keep ((Below.refl _ _).alloc (Nat.le_refl _) (.cells #[.int .i64 0, .int .i64 0, .int .i64 0, .int .i64 0, .int .i64 0, .int .i64 0] 23))).add (g := W1.heap.size) (n := 6) (V := (· = .agg ((confV l).take 0 ++ zeroV.drop 0).toArray)) HS1.out.1.size (fun r hr => Nat.ne_of_lt (HS1.out.lt r hr)) ⟨_, _, heap_alloc_new W1 _, rfl, rfl⟩
  have hB : Own w [(w.heap.size, 6, fun _ => True), (g1, 24, (· = .agg (vals l))), (g2, 2, (· = .agg #[restV g1 0, .int .i64 0])), (W1.heap.size, 6, (· = .agg ((confV l).take 0 ++ zeroV.drop 0).toArray)), (W1.heap.size + 1, 6, (· = .agg (ptrs W1.heap.size)))] ((W1.alloc (.cells #[.int .i64 0, .int .i64 0, .int .i64 0, .int .i64 0, .int .i64 0, .int .i64 0] 23)).alloc (.cells (ptrs W1.heap.size) 72)) :=
    (hA.keep ((Below.refl _ _).alloc (Nat.le_refl _) _)).add (g := W1.heap.size + 1) (n := 6) (V := (· = .agg (ptrs W1.heap.size))) (Nat.le_trans HS1.out.1.size (Nat.le_succ _)) (fun r hr => Nat.ne_of_lt (Nat.lt_of_lt_of_le (hA.lt r hr) (by simp))) ⟨_, _, new2_1 .., rfl, rfl⟩
  clear hA HS1
  have HBo := Lib.hid hB
  clear hB
  have HW := Lib.hid (show ((W1.alloc (.cells #[.int .i64 0, .int .i64 0, .int .i64 0, .int .i64 0, .int .i64 0, .int .i64 0] 23)).alloc (.cells (ptrs W1.heap.size) 72)) = ((W1.alloc (.cells #[.int .i64 0, .int .i64 0, .int .i64 0, .int .i64 0, .int .i64 0, .int .i64 0] 23)).alloc (.cells #[.pointer (some ⟨W1.heap.size, 0, none⟩), .pointer (some ⟨W1.heap.size, 1, none⟩), .pointer (some ⟨W1.heap.size, 2, none⟩), .pointer (some ⟨W1.heap.size, 3, none⟩), .pointer (some ⟨W1.heap.size, 4, none⟩), .pointer (some ⟨W1.heap.size, 5, none⟩)] 72)) from rfl)
  rw [← HW.out]
  generalize ((W1.alloc (.cells #[.int .i64 0, .int .i64 0, .int .i64 0, .int .i64 0, .int .i64 0, .int .i64 0] 23)).alloc (.cells (ptrs W1.heap.size) 72)) = W2 at HBo ⊢
  clear HW
  generalize W1.heap.size = gc at HBo ⊢
  go_loopw [23] (fun i wr => ∃ k : Nat, k ≤ 6 ∧ i = .int .i64 k ∧ Own w [(w.heap.size, 6, fun _ => True), (g1, 24, (· = .agg (vals l))), (g2, 2, (· = .agg #[restV g1 k, .int .i64 0])), (gc, 6, (· = .agg ((confV l).take k ++ zeroV.drop k).toArray)), (gc + 1, 6, (· = .agg (ptrs gc)))] wr) (fun i _ => 6 - (intOf i).toNat)
  case atStart => exact ⟨0, by omega, rfl, HBo.out⟩
  case round =>
    clear HBo
    obtain ⟨k, hk, rfl, hS⟩ := hrel
    by_cases hlt : k < 6
    · obtain ⟨tp, Rp⟩ := hS.rowV (i := 4) rfl
      have cp := (row_cell Rp k).trans (ptr_at gc k hlt)
      obtain ⟨tr, Rr⟩ := hS.rowV (i := 2) rfl
      obtain ⟨tb, Rb⟩ := hS.bytes (i := 1) rfl
      have hU := u32_any g1 g2 (4 * k) (24 - 4 * k) (24 - 4 * k) tr ((l.drop (4 * k)).take 4) wr (by rw [Rr, restV, if_neg (by omega)]) (by omega) (Nat.le_refl _) (by omega) (numAt_len HN.out k hlt) ((HB.out.drop (4 * k)).take 4) (BytesIn.vals (4 * k) Rb (by rw [numAt_len HN.out k hlt])) HNE.out
      rw [rest_step g1 k hlt] at hU
      have hx := numAt_bound HN.out HB.out k hlt
      have hf := fillV (confV l) zeroV k _ (conf_at l k hlt) hlt rfl
      have hmid := mid_at l k hlt
      rw [show num ((l.drop (4 * k)).take 4) = numAt l k from rfl] at hU
      generalize numAt l k = x at hU hx hf
      have HU := Lib.hid hU
      have HSo := Lib.hid hS
      have HF := Lib.hid hf
      have HM := Lib.hid hmid
      clear hU hS hf hmid Rp Rr Rb
      go_wp2_with ((with_reducible refine guard_list ?_); first | (refine held_fnE _ _ _ rfl ?_))
      refine wpList_step fun K hK => if_always rfl ?_
      refine wp_fn1 _ _ _ _ rfl rfl (by intro args w; kernel_rfl) (HU.out.mono fun e w5 ⟨he, hbel⟩ => ⟨_, he, hK _ _ ?_⟩)
      have hS5 := (HSo.out.cellV (i := 2) (c' := #[restV g1 (k + 1), .int .i64 0]) rfl 0 (restV g1 (k + 1)) rfl).keep (by rw [World.size_setCell]; exact hbel)
      simp only [List.set_cons_zero, List.set_cons_succ] at hS5
      obtain ⟨tc, Rc⟩ := hS5.rowV (i := 3) rfl
      have cc := (row_cell Rc k).trans HM.out
      have fc := row_free Rc k
      have hS6 := hS5.cellV (i := 3) rfl k (.int .i64 x) HF.out
      simp only [List.set_cons_zero, List.set_cons_succ] at hS6
      have HS6 := Lib.hid hS6
      clear hS6 hS5 Rc hbel
      clear HU HSo HF HM
      go_wp2
      go_roundw
      case rel => exact ⟨k + 1, by omega, by go_num, HS6.out⟩
      case measure => simp [intOf]; omega
    · obtain rfl : k = 6 := by omega
      have hS' : Own w [(w.heap.size, 6, fun _ => True), (g1, 24, (· = .agg (vals l))), (g2, 2, (· = .agg #[restV g1 6, .int .i64 0])), (gc, 6, (· = .agg #[.int .i64 (numAt l 0), .int .i64 (numAt l 1), .int .i64 (numAt l 2), .int .i64 (numAt l 3), .int .i64 (numAt l 4), .int .i64 (numAt l 5)])), (gc + 1, 6, (· = .agg (ptrs gc)))] wr := hS
      have HR2 := HR.out
      have HSX := Lib.hid hS'
      clear hS hS' HR
      generalize numAt l 0 = n0 at HR2 HSX
      generalize numAt l 1 = n1 at HR2 HSX
      generalize numAt l 2 = n2 at HR2 HSX
      generalize numAt l 3 = n3 at HR2 HSX
      generalize numAt l 4 = n4 at HR2 HSX
      generalize numAt l 5 = n5 at HR2 HSX
      by_cases hg : good n0 n1 n2 n3 n4 n5 = true
      · rw [if_pos hg] at HR2
        subst HR2
        have HGD := Lib.hid hg
        clear hg
        go_wp2_with ((with_reducible refine guard_list ?_); first | (refine held_load 23 _ rfl ?_))
        have hS := HSX.out
        clear HSX
        obtain ⟨M, hM⟩ : ∃ M, M = wr.heap.size := ⟨_, rfl⟩
        refine hide_held fun t0 HT => ?_
        have HS : t0.size = 40 := by rw [HT]; rfl
        have h2 : t0[2]? = some (.pointer (some ⟨w.heap.size, 0, none⟩)) := by rw [HT]; rfl
        have h5 : t0[5]? = some (.pointer (some ⟨gc, 0, none⟩)) := by rw [HT]; rfl
        clear HT
        refine wp_list_most 2 (fun i => [33, 34].getD i 0) (fun _ => none) (fun i => [(· = .agg #[.int .i64 n0, .int .i64 n1, .int .i64 n2, .int .i64 n3, .int .i64 n4, .int .i64 n5]), (· = .int .i64 0)].getD i (fun _ => True)) (fun w' => Own w [(w.heap.size, 6, (fun _ => True)), (g1, 24, (· = .agg (vals l))), (g2, 2, (· = .agg #[restV g1 6, .int .i64 0])), (gc, 6, (· = .agg #[.int .i64 n0, .int .i64 n1, .int .i64 n2, .int .i64 n3, .int .i64 n4, .int .i64 n5])), ((gc + 1), 6, (· = .agg (ptrs gc)))] w' ∧ M ≤ w'.heap.size) M
          (by kernel_rfl) (slots_apart (by kernel_rfl)) (slots_lie (by rw [HS]; kernel_rfl)) ⟨hS, Nat.le_of_eq hM⟩ (fun w' h => h.2) (fun w1 w2 h b => ⟨h.1.keep b, Nat.le_trans h.2 b.size⟩) ?_ ?_ ?_
        · clear hS
          intro i o hi ho hA
          have hc : i = 0 ∨ i = 1 := by omega
          rcases hc with rfl | rfl
          · obtain rfl := Option.some.inj ho
            refine ⟨rfl, fun a w' hS hold hin K hK => ?_⟩
            refine if_always rfl ?_
            exact op_ld_own 6 tConf (.tmp 5) rfl rfl _ (eval_tmp ((hold 5 (slots_not (by kernel_rfl))).trans h5)) hS.1 3 rfl hK
          · obtain rfl := Option.some.inj ho
            refine ⟨rfl, fun a w' hS hold hin K hK => ?_⟩
            obtain ⟨y0, x0, rfl⟩ := hin 0 rfl (by omega) rfl
            refine if_always rfl ?_
            exact op_fn1 _ _ _ _ rfl rfl (eval_tmp x0) (by intro args w; kernel_rfl) (check_yesE HGD.out _) hK
        · intro i o sz hi ho hA; cases hA
        clear hS
        intro t1 V1 hs hold hout hall hne hS
        replace HS := hs.trans HS
        replace hS := hS.1
        obtain ⟨x34, q34, v34⟩ : ∃ x, t1[34]? = some x ∧ ((· = .int .i64 0)) x := hout 1 (by omega) rfl
        replace q34 : t1[34]? = some (.int .i64 0) := q34.trans (congrArg some v34)
        replace h2 := (hold 2 (slots_not (by kernel_rfl))).trans h2
        replace h5 := (hold 5 (slots_not (by kernel_rfl))).trans h5
        clear hold hout hs hall hne
        simp only [List.drop_succ_cons, List.drop_zero]
        refine tlx_assign (.tmp 34) rfl rfl 8 rfl (by rw [HS]; decide) (.int .i64 0) (eval_tmp q34) fun t1 ex0 hz hq he => ?_
        replace h2 := (he 2 (by decide)).trans h2
        replace h5 := (he 5 (by decide)).trans h5
        replace q34 := (he 34 (by decide)).trans q34
        replace HS := hz.trans HS
        clear hz he ex0
        have h8 := hq
        clear hq
        refine wpList_nil ?_
        obtain ⟨f, e0, hf⟩ := wash HS
        have f2 := hf 2 _ h2
        have f5 := hf 5 _ h5
        have f8 := hf 8 _ h8
        clear hf
        rw [e0.trans (show _ = #[f 0, f 1, f 2, f 3, f 4, f 5, f 6, f 7, f 8, f 9, f 10, f 11, f 12, f 13, f 14, f 15, f 16, f 17, f 18, f 19, f 20, f 21, f 22, f 23, f 24, f 25, f 26, f 27, f 28, f 29, f 30, f 31, f 32, f 33, f 34, f 35, f 36, f 37, f 38, f 39] from by kernel_rfl), f2, f5, f8]
        clear f2 f5 f8
        clear e0
        try dsimp only
        clear h2 h5 h8 q34 v34 hM HS t1 t0 M
        go_wp2_with ((with_reducible refine guard_list ?_); first | (refine held_load 23 _ rfl ?_))
        obtain ⟨M, hM⟩ : ∃ M, M = V1.heap.size := ⟨_, rfl⟩
        refine hide_held fun t0 HT => ?_
        have HS : t0.size = 40 := by rw [HT]; rfl
        have h2 : t0[2]? = some (.pointer (some ⟨w.heap.size, 0, none⟩)) := by rw [HT]; rfl
        have h5 : t0[5]? = some (.pointer (some ⟨gc, 0, none⟩)) := by rw [HT]; rfl
        have h8 : t0[8]? = some (.int .i64 0) := by rw [HT]; rfl
        clear HT
        refine wp_list_most 1 (fun i => [39].getD i 0) (fun _ => none) (fun i => [(· = .agg #[.int .i64 n0, .int .i64 n1, .int .i64 n2, .int .i64 n3, .int .i64 n4, .int .i64 n5])].getD i (fun _ => True)) (fun w' => Own w [(w.heap.size, 6, (fun _ => True)), (g1, 24, (· = .agg (vals l))), (g2, 2, (· = .agg #[restV g1 6, .int .i64 0])), (gc, 6, (· = .agg #[.int .i64 n0, .int .i64 n1, .int .i64 n2, .int .i64 n3, .int .i64 n4, .int .i64 n5])), ((gc + 1), 6, (· = .agg (ptrs gc)))] w' ∧ M ≤ w'.heap.size) M
          (by kernel_rfl) (slots_apart (by kernel_rfl)) (slots_lie (by rw [HS]; kernel_rfl)) ⟨hS, Nat.le_of_eq hM⟩ (fun w' h => h.2) (fun w1 w2 h b => ⟨h.1.keep b, Nat.le_trans h.2 b.size⟩) ?_ ?_ ?_
        · clear hS
          intro i o hi ho hA
          have hc : i = 0 := by omega
          rcases hc with rfl
          · obtain rfl := Option.some.inj ho
            refine ⟨rfl, fun a w' hS hold hin K hK => ?_⟩
            refine if_always rfl ?_
            exact op_ld_own 6 tConf (.tmp 5) rfl rfl _ (eval_tmp ((hold 5 (slots_not (by kernel_rfl))).trans h5)) hS.1 3 rfl hK
        · intro i o sz hi ho hA; cases hA
        clear hS
        intro t1 V2 hs hold hout hall hne hS
        replace HS := hs.trans HS
        replace hS := hS.1
        obtain ⟨x39, q39, v39⟩ : ∃ x, t1[39]? = some x ∧ ((· = .agg #[.int .i64 n0, .int .i64 n1, .int .i64 n2, .int .i64 n3, .int .i64 n4, .int .i64 n5])) x := hout 0 (by omega) rfl
        replace q39 : t1[39]? = some (.agg #[.int .i64 n0, .int .i64 n1, .int .i64 n2, .int .i64 n3, .int .i64 n4, .int .i64 n5]) := q39.trans (congrArg some v39)
        replace h2 := (hold 2 (slots_not (by kernel_rfl))).trans h2
        replace h5 := (hold 5 (slots_not (by kernel_rfl))).trans h5
        replace h8 := (hold 8 (slots_not (by kernel_rfl))).trans h8
        clear hold hout hs hall hne
        simp only [List.drop_succ_cons, List.drop_zero]
        refine st_own 6 tConf rfl (.tmp 2) (.tmp 39) rfl rfl _ _ (eval_tmp h2) (eval_tmp q39) (V' := (· = .agg #[.int .i64 n0, .int .i64 n1, .int .i64 n2, .int .i64 n3, .int .i64 n4, .int .i64 n5])) rfl by_confE hS 0 rfl fun V2' hS' _ => ?_
        replace hS : Own w [(w.heap.size, 6, (· = .agg #[.int .i64 n0, .int .i64 n1, .int .i64 n2, .int .i64 n3, .int .i64 n4, .int .i64 n5])), (g1, 24, (· = .agg (vals l))), (g2, 2, (· = .agg #[restV g1 6, .int .i64 0])), (gc, 6, (· = .agg #[.int .i64 n0, .int .i64 n1, .int .i64 n2, .int .i64 n3, .int .i64 n4, .int .i64 n5])), ((gc + 1), 6, (· = .agg (ptrs gc)))] V2' := hS'
        clear hS'
        refine tlx_assign _ rfl rfl 3 rfl (by rw [HS]; decide) (.int .i64 0) rfl fun t1 ex0 hz hq he => ?_
        replace h2 := (he 2 (by decide)).trans h2
        replace h5 := (he 5 (by decide)).trans h5
        replace h8 := (he 8 (by decide)).trans h8
        replace q39 := (he 39 (by decide)).trans q39
        replace HS := hz.trans HS
        clear hz he ex0
        have h3 := hq
        clear hq
        refine wpList_nil ?_
        obtain ⟨f, e0, hf⟩ := wash HS
        have f2 := hf 2 _ h2
        have f5 := hf 5 _ h5
        have f8 := hf 8 _ h8
        have f3 := hf 3 _ h3
        clear hf
        rw [e0.trans (show _ = #[f 0, f 1, f 2, f 3, f 4, f 5, f 6, f 7, f 8, f 9, f 10, f 11, f 12, f 13, f 14, f 15, f 16, f 17, f 18, f 19, f 20, f 21, f 22, f 23, f 24, f 25, f 26, f 27, f 28, f 29, f 30, f 31, f 32, f 33, f 34, f 35, f 36, f 37, f 38, f 39] from by kernel_rfl), f2, f5, f8, f3]
        clear f2 f5 f8 f3
        clear e0
        try dsimp only
        clear h2 h5 h8 h3 q39 v39 hM HS t1 t0 M
        obtain ⟨cs, ct, c1, c2, c3⟩ := hS.get (i := 0) rfl
        have hbel := hS.1
        have C3 := Lib.hid c3
        clear hS c3
        go_wp2_with fail
        refine ret_row_tmp rfl _ _ _ rfl c1 6 tConf c2 rfl ?_
        exact ⟨_, rfl, by rw [show Value.agg cs = _ from C3.out]; rfl, hbel⟩
      · rw [if_neg hg] at HR2
        subst HR2
        have HGD := Lib.hid hg
        clear hg
        go_wp2_with ((with_reducible refine guard_list ?_); first | (refine held_load 23 _ rfl ?_))
        have hS := HSX.out
        clear HSX
        obtain ⟨M, hM⟩ : ∃ M, M = wr.heap.size := ⟨_, rfl⟩
        refine hide_held fun t0 HT => ?_
        have HS : t0.size = 40 := by rw [HT]; rfl
        have h2 : t0[2]? = some (.pointer (some ⟨w.heap.size, 0, none⟩)) := by rw [HT]; rfl
        have h5 : t0[5]? = some (.pointer (some ⟨gc, 0, none⟩)) := by rw [HT]; rfl
        clear HT
        refine wp_list_most 2 (fun i => [33, 34].getD i 0) (fun _ => none) (fun i => [(· = .agg #[.int .i64 n0, .int .i64 n1, .int .i64 n2, .int .i64 n3, .int .i64 n4, .int .i64 n5]), (· = .int .i64 200)].getD i (fun _ => True)) (fun w' => Own w [(w.heap.size, 6, (fun _ => True)), (g1, 24, (· = .agg (vals l))), (g2, 2, (· = .agg #[restV g1 6, .int .i64 0])), (gc, 6, (· = .agg #[.int .i64 n0, .int .i64 n1, .int .i64 n2, .int .i64 n3, .int .i64 n4, .int .i64 n5])), ((gc + 1), 6, (· = .agg (ptrs gc)))] w' ∧ M ≤ w'.heap.size) M
          (by kernel_rfl) (slots_apart (by kernel_rfl)) (slots_lie (by rw [HS]; kernel_rfl)) ⟨hS, Nat.le_of_eq hM⟩ (fun w' h => h.2) (fun w1 w2 h b => ⟨h.1.keep b, Nat.le_trans h.2 b.size⟩) ?_ ?_ ?_
        · clear hS
          intro i o hi ho hA
          have hc : i = 0 ∨ i = 1 := by omega
          rcases hc with rfl | rfl
          · obtain rfl := Option.some.inj ho
            refine ⟨rfl, fun a w' hS hold hin K hK => ?_⟩
            refine if_always rfl ?_
            exact op_ld_own 6 tConf (.tmp 5) rfl rfl _ (eval_tmp ((hold 5 (slots_not (by kernel_rfl))).trans h5)) hS.1 3 rfl hK
          · obtain rfl := Option.some.inj ho
            refine ⟨rfl, fun a w' hS hold hin K hK => ?_⟩
            obtain ⟨y0, x0, rfl⟩ := hin 0 rfl (by omega) rfl
            refine if_always rfl ?_
            exact op_fn1 _ _ _ _ rfl rfl (eval_tmp x0) (by intro args w; kernel_rfl) (check_noE HGD.out _) hK
        · intro i o sz hi ho hA; cases hA
        clear hS
        intro t1 V1 hs hold hout hall hne hS
        replace HS := hs.trans HS
        replace hS := hS.1
        obtain ⟨x34, q34, v34⟩ : ∃ x, t1[34]? = some x ∧ ((· = .int .i64 200)) x := hout 1 (by omega) rfl
        replace q34 : t1[34]? = some (.int .i64 200) := q34.trans (congrArg some v34)
        replace h2 := (hold 2 (slots_not (by kernel_rfl))).trans h2
        replace h5 := (hold 5 (slots_not (by kernel_rfl))).trans h5
        clear hold hout hs hall hne
        simp only [List.drop_succ_cons, List.drop_zero]
        refine tlx_assign (.tmp 34) rfl rfl 8 rfl (by rw [HS]; decide) (.int .i64 200) (eval_tmp q34) fun t1 ex0 hz hq he => ?_
        replace h2 := (he 2 (by decide)).trans h2
        replace h5 := (he 5 (by decide)).trans h5
        replace q34 := (he 34 (by decide)).trans q34
        replace HS := hz.trans HS
        clear hz he ex0
        have h8 := hq
        clear hq
        refine wpList_nil ?_
        obtain ⟨f, e0, hf⟩ := wash HS
        have f2 := hf 2 _ h2
        have f5 := hf 5 _ h5
        have f8 := hf 8 _ h8
        clear hf
        rw [e0.trans (show _ = #[f 0, f 1, f 2, f 3, f 4, f 5, f 6, f 7, f 8, f 9, f 10, f 11, f 12, f 13, f 14, f 15, f 16, f 17, f 18, f 19, f 20, f 21, f 22, f 23, f 24, f 25, f 26, f 27, f 28, f 29, f 30, f 31, f 32, f 33, f 34, f 35, f 36, f 37, f 38, f 39] from by kernel_rfl), f2, f5, f8]
        clear f2 f5 f8
        clear e0
        try dsimp only
        clear h2 h5 h8 q34 v34 hM HS t1 t0 M
        go_wp2_with ((with_reducible refine guard_list ?_); first | (refine held_buildE _ _ rfl ?_))
        obtain ⟨M, hM⟩ : ∃ M, M = V1.heap.size := ⟨_, rfl⟩
        refine hide_held fun t0 HT => ?_
        have HS : t0.size = 40 := by rw [HT]; rfl
        have h2 : t0[2]? = some (.pointer (some ⟨w.heap.size, 0, none⟩)) := by rw [HT]; rfl
        have h5 : t0[5]? = some (.pointer (some ⟨gc, 0, none⟩)) := by rw [HT]; rfl
        have h8 : t0[8]? = some (.int .i64 200) := by rw [HT]; rfl
        clear HT
        refine wp_list_most 2 (fun i => [37, 38].getD i 0) (fun _ => none) (fun i => [(· = .agg #[.int .i64 0, .int .i64 0, .int .i64 0, .int .i64 0, .int .i64 0, .int .i64 0]), (· = .int .i64 200)].getD i (fun _ => True)) (fun w' => Own w [(w.heap.size, 6, (fun _ => True)), (g1, 24, (· = .agg (vals l))), (g2, 2, (· = .agg #[restV g1 6, .int .i64 0])), (gc, 6, (· = .agg #[.int .i64 n0, .int .i64 n1, .int .i64 n2, .int .i64 n3, .int .i64 n4, .int .i64 n5])), ((gc + 1), 6, (· = .agg (ptrs gc)))] w' ∧ M ≤ w'.heap.size) M
          (by kernel_rfl) (slots_apart (by kernel_rfl)) (slots_lie (by rw [HS]; kernel_rfl)) ⟨hS, Nat.le_of_eq hM⟩ (fun w' h => h.2) (fun w1 w2 h b => ⟨h.1.keep b, Nat.le_trans h.2 b.size⟩) ?_ ?_ ?_
        · clear hS
          intro i o hi ho hA
          have hc : i = 0 ∨ i = 1 := by omega
          rcases hc with rfl | rfl
          · obtain rfl := Option.some.inj ho
            refine ⟨rfl, fun a w' hS hold hin K hK => ?_⟩
            refine if_always rfl ?_
            exact op_val (V := (· = .agg #[.int .i64 0, .int .i64 0, .int .i64 0, .int .i64 0, .int .i64 0, .int .i64 0])) (.agg #[.int .i64 0, .int .i64 0, .int .i64 0, .int .i64 0, .int .i64 0, .int .i64 0]) rfl (by kernel_rfl) rfl hK
          · obtain rfl := Option.some.inj ho
            refine ⟨rfl, fun a w' hS hold hin K hK => ?_⟩
            refine if_always rfl ?_
            exact op_move (V := (· = .int .i64 200)) _ _ rfl rfl (eval_tmp ((hold 8 (slots_not (by kernel_rfl))).trans h8)) rfl hK
        · intro i o sz hi ho hA; cases hA
        clear hS
        intro t1 V2 hs hold hout hall hne hS
        replace HS := hs.trans HS
        replace hS := hS.1
        obtain ⟨x37, q37, v37⟩ : ∃ x, t1[37]? = some x ∧ ((· = .agg #[.int .i64 0, .int .i64 0, .int .i64 0, .int .i64 0, .int .i64 0, .int .i64 0])) x := hout 0 (by omega) rfl
        replace q37 : t1[37]? = some (.agg #[.int .i64 0, .int .i64 0, .int .i64 0, .int .i64 0, .int .i64 0, .int .i64 0]) := q37.trans (congrArg some v37)
        obtain ⟨x38, q38, v38⟩ : ∃ x, t1[38]? = some x ∧ ((· = .int .i64 200)) x := hout 1 (by omega) rfl
        replace q38 : t1[38]? = some (.int .i64 200) := q38.trans (congrArg some v38)
        replace h2 := (hold 2 (slots_not (by kernel_rfl))).trans h2
        replace h5 := (hold 5 (slots_not (by kernel_rfl))).trans h5
        replace h8 := (hold 8 (slots_not (by kernel_rfl))).trans h8
        clear hold hout hs hall hne
        simp only [List.drop_succ_cons, List.drop_zero]
        refine st_own 6 tConf rfl (.tmp 2) (.tmp 37) rfl rfl _ _ (eval_tmp h2) (eval_tmp q37) (V' := (· = .agg #[.int .i64 0, .int .i64 0, .int .i64 0, .int .i64 0, .int .i64 0, .int .i64 0])) rfl by_confE hS 0 rfl fun V2' hS' _ => ?_
        replace hS : Own w [(w.heap.size, 6, (· = .agg #[.int .i64 0, .int .i64 0, .int .i64 0, .int .i64 0, .int .i64 0, .int .i64 0])), (g1, 24, (· = .agg (vals l))), (g2, 2, (· = .agg #[restV g1 6, .int .i64 0])), (gc, 6, (· = .agg #[.int .i64 n0, .int .i64 n1, .int .i64 n2, .int .i64 n3, .int .i64 n4, .int .i64 n5])), ((gc + 1), 6, (· = .agg (ptrs gc)))] V2' := hS'
        clear hS'
        refine tlx_assign (.tmp 38) rfl rfl 3 rfl (by rw [HS]; decide) (.int .i64 200) (eval_tmp q38) fun t1 ex0 hz hq he => ?_
        replace h2 := (he 2 (by decide)).trans h2
        replace h5 := (he 5 (by decide)).trans h5
        replace h8 := (he 8 (by decide)).trans h8
        replace q37 := (he 37 (by decide)).trans q37
        replace q38 := (he 38 (by decide)).trans q38
        replace HS := hz.trans HS
        clear hz he ex0
        have h3 := hq
        clear hq
        refine wpList_nil ?_
        obtain ⟨f, e0, hf⟩ := wash HS
        have f2 := hf 2 _ h2
        have f5 := hf 5 _ h5
        have f8 := hf 8 _ h8
        have f3 := hf 3 _ h3
        clear hf
        rw [e0.trans (show _ = #[f 0, f 1, f 2, f 3, f 4, f 5, f 6, f 7, f 8, f 9, f 10, f 11, f 12, f 13, f 14, f 15, f 16, f 17, f 18, f 19, f 20, f 21, f 22, f 23, f 24, f 25, f 26, f 27, f 28, f 29, f 30, f 31, f 32, f 33, f 34, f 35, f 36, f 37, f 38, f 39] from by kernel_rfl), f2, f5, f8, f3]
        clear f2 f5 f8 f3
        clear e0
        try dsimp only
        clear h2 h5 h8 h3 q37 q38 v37 v38 hM HS t1 t0 M
        obtain ⟨cs, ct, c1, c2, c3⟩ := hS.get (i := 0) rfl
        have hbel := hS.1
        have C3 := Lib.hid c3
        clear hS c3
        go_wp2_with fail
        refine ret_row_tmp rfl _ _ _ rfl c1 6 tConf c2 rfl ?_
        exact ⟨_, rfl, by rw [show Value.agg cs = _ from C3.out]; rfl, hbel⟩
end Go.Proofs.YtmochmpamgfboabDoor
