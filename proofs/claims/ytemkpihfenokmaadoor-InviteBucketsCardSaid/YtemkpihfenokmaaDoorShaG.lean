/- Bytes go into a Hash in pieces: (*digest.Hash).Write. Condition: lengths that memory can hold; the table as its text lays it. -/
import Derived.Test.YtemkpihfenokmaaDoorShaF
import Derived.Test.YtemkpihfenokmaaDoorSl6
import Derived.Laws.CopyOwn
import Derived.Test.YtemkpihfenokmaaDoorOpsU
namespace Go.Proofs.YtemkpihfenokmaaDoor
open Go.RowKit
/-- The words behind k whole blocks of m. -/
def stN (m : List Int) : Nat → List Int
  | 0 => first8
  | k + 1 => blockL (stN m k) ((m.drop (64 * k)).take 64)
theorem blockL_len {st bk : List Int} (h : st.length = 8) : (blockL st bk).length = 8 := addL_len h (runL_len h 64) (Nat.le_refl 8)
theorem stN_len (m : List Int) : ∀ k, (stN m k).length = 8
  | 0 => rfl
  | k + 1 => blockL_len (stN_len m k)
theorem stN_left (m x : List Int) : ∀ k, 64 * k ≤ m.length → stN (m ++ x) k = stN m k
  | 0, _ => rfl
  | k + 1, h => by
    rw [stN, stN, stN_left m x k (by omega), List.drop_append_of_le_length (by omega), List.take_append_of_le_length (by rw [List.length_drop]; omega)]
/-- What of m stands in the block. -/
def InBlock (m bk : List Int) : Prop := bk.length = 64 ∧ Byt bk ∧ bk.take (m.length % 64) = m.drop (64 * (m.length / 64))
/-- The Hash in block g has taken in the bytes m; its size says z. -/
def HashAt (w : World) (g : Nat) (m : List Int) (z : Nat) : Prop := ∃ bk, InBlock m bk ∧ w.heap[g]? = some (.cells (hashC (stN m (m.length / 64)) bk ((m.length % 64 : Nat) : Int) ((z : Nat) : Int)) 56 (0, 0))
theorem splice_map {α β : Type} (f : α → β) (L cs : List α) (o : Nat) : splice (L.map f) o (cs.map f) = (splice L o cs).map f := by
  simp [splice, List.map_append, List.map_take, List.map_drop]
theorem splice_mid {α : Type} (A L C cs : List α) (o n : Nat) (hn : A.length = n) (h : o + cs.length ≤ L.length) : splice (A ++ L ++ C) (n + o) cs = A ++ splice L o cs ++ C := by
  subst hn
  have e1 : ∀ (X : List α) (k : Nat), (A ++ X).take (A.length + k) = A ++ X.take k := fun X k => by
    rw [List.take_append, List.take_of_length_le (by omega), Nat.add_sub_cancel_left]
  have e2 : ∀ (X : List α) (k : Nat), (A ++ X).drop (A.length + k) = X.drop k := fun X k => by
    rw [List.drop_append, List.drop_of_length_le (by omega), Nat.add_sub_cancel_left, List.nil_append]
  simp only [splice, List.append_assoc]
  rw [Nat.add_assoc, e1, e2, List.take_append_of_le_length (by omega), List.drop_append_of_le_length h, List.append_assoc]
theorem splice_byt {L cs : List Int} {o : Nat} (h : Byt L) (h2 : Byt cs) : Byt (splice L o cs) := by
  intro x hx
  simp only [splice, List.mem_append] at hx
  rcases hx with hx | hx | hx
  · exact h x (List.mem_of_mem_take hx)
  · exact h2 x hx
  · exact h x (List.mem_of_mem_drop hx)
/-- A Hash's size is laid anew. -/
theorem hash_z {st bk : List Int} {u z x : Int} (hs : st.length = 8) (hb : bk.length = 64) : (hashC st bk u z).setIfInBounds 73 (.int .u64 x) = hashC st bk u x := by
  apply Array.ext'
  simp only [hashC, Array.toList_setIfInBounds]
  rw [List.set_append_right _ _ (by simp [hs, hb])]
  simp [hs, hb]
theorem hash_u {st bk : List Int} {u z x : Int} (hs : st.length = 8) (hb : bk.length = 64) : (hashC st bk u z).setIfInBounds 72 (.int .i64 x) = hashC st bk x z := by
  apply Array.ext'
  simp only [hashC, Array.toList_setIfInBounds]
  rw [List.set_append_right _ _ (by simp [hs, hb])]
  simp [hs, hb]
theorem hash_at72 {st bk : List Int} {u z : Int} (hs : st.length = 8) (hb : bk.length = 64) : (hashC st bk u z)[72]? = some (.int .i64 u) := by
  have e : (hashC st bk u z)[72]? = (st.map (Value.int .u32) ++ bk.map (Value.int .u8) ++ [Value.int .i64 u, Value.int .u64 z])[72]? := by rw [hashC, List.getElem?_toArray]
  rw [e, List.getElem?_append_right (by simp [hs, hb])]
  simp [hs, hb]
theorem hash_at73 {st bk : List Int} {u z : Int} (hs : st.length = 8) (hb : bk.length = 64) : (hashC st bk u z)[73]? = some (.int .u64 z) := by
  have e : (hashC st bk u z)[73]? = (st.map (Value.int .u32) ++ bk.map (Value.int .u8) ++ [Value.int .i64 u, Value.int .u64 z])[73]? := by rw [hashC, List.getElem?_toArray]
  rw [e, List.getElem?_append_right (by simp [hs, hb])]
  simp [hs, hb]
theorem hash_splice {st bk cs : List Int} {u z : Int} {o : Nat} (hs : st.length = 8) (hb : o + cs.length ≤ bk.length) : (splice (hashC st bk u z).toList (8 + o) (cs.map (Value.int .u8))).toArray = hashC st (splice bk o cs) u z := by
  rw [hashC, hashC, splice_mid _ _ _ _ _ 8 (by simp [hs]) (by simpa using hb), splice_map]
theorem splice_take {L cs : List Int} {o : Nat} (h : o ≤ L.length) : (splice L o cs).take (o + cs.length) = L.take o ++ cs := by
  rw [splice, ← List.append_assoc, List.take_append_of_le_length (by simp; omega), List.take_of_length_le (by simp; omega)]
theorem InBlock.part {m bk cs : List Int} (h : InBlock m bk) (hc : Byt cs) (hl : m.length % 64 + cs.length < 64) :
    InBlock (m ++ cs) (splice bk (m.length % 64) cs) ∧ (m ++ cs).length / 64 = m.length / 64 ∧ (m ++ cs).length % 64 = m.length % 64 + cs.length := by
  have e1 : (m ++ cs).length / 64 = m.length / 64 := by rw [List.length_append]; omega
  have e2 : (m ++ cs).length % 64 = m.length % 64 + cs.length := by rw [List.length_append]; omega
  refine ⟨⟨?_, splice_byt h.2.1 hc, ?_⟩, e1, e2⟩
  · rw [length_splice _ _ _ (by rw [h.1]; omega), h.1]
  · rw [e1, e2, splice_take (by rw [h.1]; omega), h.2.2, List.drop_append_of_le_length (by omega)]
theorem InBlock.full {m bk cs : List Int} (h : InBlock m bk) (hc : Byt cs) (hl : m.length % 64 + cs.length = 64) :
    InBlock (m ++ cs) (splice bk (m.length % 64) cs) ∧ stN (m ++ cs) ((m ++ cs).length / 64) = blockL (stN m (m.length / 64)) (splice bk (m.length % 64) cs) ∧ (m ++ cs).length % 64 = 0 := by
  have e1 : (m ++ cs).length / 64 = m.length / 64 + 1 := by rw [List.length_append]; omega
  have e2 : (m ++ cs).length % 64 = 0 := by rw [List.length_append]; omega
  have hls : (splice bk (m.length % 64) cs).length = 64 := by rw [length_splice _ _ _ (by rw [h.1]; omega), h.1]
  refine ⟨⟨hls, splice_byt h.2.1 hc, ?_⟩, ?_, e2⟩
  · rw [e2, List.take_zero, e1, List.drop_of_length_le (by rw [List.length_append]; omega)]
  · rw [e1, stN, stN_left m cs _ (by omega), List.drop_append_of_le_length (by omega), ← h.2.2]
    have e3 := splice_take (L := bk) (cs := cs) (o := m.length % 64) (by rw [h.1]; omega)
    rw [← e3, List.take_of_length_le (by rw [List.length_take, hls]; omega), List.take_of_length_le (by rw [hls]; omega)]
section
variable {o : Oper} {w : World} {a : Act} {Q : Exit → Act → World → Prop} {ops : Array Oper} {rest : List Oper} {P : Program}
theorem held_from {P : Program} {ops : Array Oper} {rest : List Oper} {o : Oper} {Q : Exit → Act → World → Prop} {a : Act} {w : World} (t : TypeId) (x y : Operand) (_ : o.op = .slice t x (some y) none none) (h : Held (wpList P ops Q (o :: rest) a w)) : wpList P ops Q (o :: rest) a w := h
/-- rest = rest[k:], one law for every k. -/
theorem wpl_from (hgd : o.guard = none) {t : TypeId} (e : TypeId) (hu : P.underlying t = some (.slice e)) (hie : (P.info? e).map (·.size) = some 1) (x y : Operand) (ho : o.op = .slice t x (some y) none none) (ad : Addr) (n c k : Nat) (hx : a.eval x = .slice (some ad) n c)
    (hy : a.eval y = .int .i64 (k : Nat)) (h1 : k ≤ n) (h2 : n ≤ c)
    (hK : ∀ p2 c2, p2.block = ad.block → n - k ≤ c2 → (∀ l : List Int, l.length = n → BytesIn w (some ad) l → BytesIn w (some p2) (l.drop k)) → wpList P ops Q rest (a.put o.dst (.slice (some p2) (n - k) c2)) w) : wpList P ops Q (o :: rest) a w := by
  obtain ⟨ie, h4, hsz⟩ := Option.map_eq_some_iff.1 hie
  have hE : P.elem t = e := by simp [Program.elem, hu]
  have hu' : P.underlying t = some (.slice (P.elem t)) := by rw [hE]; exact hu
  by_cases h3 : k < c
  · refine wpList_step fun K hKK => if_always hgd (wp_val (.slice (some (ad.add k)) (n - k) (c - k)) ?_ (hKK _ _ (hK (ad.add k) (c - k) (add_block ad k) (by omega) fun l hl hb => ?_)))
    · unfold execOp; rw [ho]
      show ((do let q ← Instr.sliceAt t (a.eval x) (some (a.eval y)) none none; pure (Next.value q)) : Sem Next).run P w = _
      rw [hx, hy]
      have hne : ¬ (c = k) := by omega
      rw [Sem.run_bind, run_sliceAt_slice _ _ _ _ _ _ hu', run_slice_l _ _ _ _ _ hu' .i64 (k : Int) (by omega) (by omega), hE]
      simp [sizeOf, typeInfo, h4, hsz, sliced, hne]
    · have h5 := hb.sub k (n - k)
      rwa [List.take_of_length_le (by rw [List.length_drop]; omega)] at h5
  · obtain rfl : k = c := by omega
    obtain rfl : n = k := by omega
    refine wpList_step fun K hKK => if_always hgd (wp_val (.slice (some ad) (n - n) (n - n)) ?_ (hKK _ _ (hK ad (n - n) rfl (by omega) fun l hl hb => ?_)))
    · unfold execOp; rw [ho]
      show ((do let q ← Instr.sliceAt t (a.eval x) (some (a.eval y)) none none; pure (Next.value q)) : Sem Next).run P w = _
      rw [hx, hy]
      rw [Sem.run_bind, run_sliceAt_slice _ _ _ _ _ _ hu', run_slice_l _ _ _ _ _ hu' .i64 (n : Int) (by omega) (by omega), hE]
      simp [sizeOf, typeInfo, h4, hsz, sliced]
    · rw [List.drop_of_length_le (by omega)]
      exact bytesIn_nil _ _
end
theorem grown_setRow {w wr : World} {g : Nat} (cs : Array Value) (h : w.grownBy wr (some g)) : w.grownBy (wr.setRow g cs) (some g) :=
  ⟨h.os, h.tape, h.output, by rw [World.setRow]; simpa using h.size, fun k hk hne => (setRow_other wr g k cs (fun e => hne (by rw [e]))).trans (h.block k hk hne)⟩
theorem BytesIn.take {w : World} {p : Option Addr} {l : List Int} (h : BytesIn w p l) (k : Nat) : BytesIn w p (l.take k) := fun i hi => by
  rw [List.length_take] at hi
  obtain ⟨a, h1, h2, h3⟩ := h i (by omega)
  refine ⟨a, h1, h2, h3.trans ?_⟩
  simp only [nth, List.getD_eq_getElem?_getD]
  rw [List.getElem?_take, if_pos (by omega)]
theorem copy_hash {w : World} {g u k sLen sCap : Nat} {st bk l : List Int} {z : Int} {ad : Addr} (hs : st.length = 8) (hb : bk.length = 64) (hr : w.heap[g]? = some (.cells (hashC st bk (u : Int) z) 56 (0, 0))) (hin : BytesIn w (some ad) l) (hl : l.length = sLen) (hu : u < 64) (hk : k = Nat.min sLen (64 - u)) :
    ∃ w', (Builtin.copy_ #[30, 30] 3 #[.slice (some ⟨g, 8 + u, none⟩) (64 - u) (64 - u), .slice (some ad) sLen sCap]).run Tryd.prog w = .ok (.int .i64 (k : Nat)) w' ∧ w'.heap[g]? = some (.cells (hashC st (splice bk u (l.take k)) (u : Int) z) 56 (0, 0)) ∧ w.grownBy w' (some g) := by
  have hkl : (l.take k).length = k := by rw [List.length_take, hl, hk]; exact Nat.min_eq_left (Nat.min_le_left _ _)
  have h9 : k ≤ 64 - u := by rw [hk]; exact Nat.min_le_right _ _
  have hku : u + k ≤ 64 := by omega
  have hsz : (hashC st bk (u : Int) z).size = 74 := by simp [hashC, hs, hb]
  have h1 := run_copy_row (P := Tryd.prog) w 30 30 3 5 g (8 + u) (64 - u) (64 - u) ad sLen sCap _ _ ((l.take k).map (Value.int .u8)) Tryd.underlying30 (by kernel_rfl) hr (by rw [List.length_map, hkl, hk]) (hin.take k).src (by rw [List.length_map, hkl, hsz]; omega) (by intro v hv; obtain ⟨x, _, rfl⟩ := List.mem_map.1 hv; rfl)
  have h2 := hash_splice (bk := bk) (cs := l.take k) (o := u) (u := (u : Int)) (z := z) hs (by rw [hkl, hb]; exact hku)
  obtain ⟨S, hS⟩ : ∃ S, S = splice (hashC st bk (u : Int) z).toList (8 + u) ((l.take k).map (Value.int .u8)) := ⟨_, rfl⟩
  rw [← hS] at h2
  rw [splice] at hS
  rw [List.append_assoc, ← hS, h2, List.length_map, hkl] at h1
  exact ⟨_, h1, setRow_heap w g _ _ _ _ hr, grown_setRow _ (grown_of_below (Below.refl w.heap.size w) (some g))⟩
theorem Tab.grown {w w' : World} {g : Nat} (h : Tab w) (hg : w.grownBy w' (some g)) (h1 : 1 < g) : Tab w' :=
  ⟨Nat.lt_of_lt_of_le h.1 hg.size, fun j hj => (World.cell?_of_block (hg.block 1 h.1 (by intro e; injection e with e; omega))).trans (h.2 j hj)⟩
set_option maxHeartbeats 4000000 in
set_option maxRecDepth 100000 in
theorem write_any (g : Nat) (p : Option Addr) (m b : List Int) (n c z : Nat) (w : World) (hn : b.length = n) (hby : Byt b) (hin : BytesIn w p b) (hnc : n ≤ c) (hpn : p = none → c = 0) (hne : ∀ a, p = some a → a.block ≠ g) (hg1 : 1 < g) (h : HashAt w g m z) (ht : Tab w) (hz : z + n < 18446744073709551616) (hm : n ≤ 140737488355328) :
    Calls Tryd.prog 13 #[.pointer (some ⟨g, 0, none⟩), .slice p n c] w (fun e w' => e = .returned (.tuple #[.int .i64 (n : Nat), .nilIface]) ∧ w.grownBy w' (some g) ∧ HashAt w' g (m ++ b) (z + n)) := by
  obtain ⟨bk, hib, hrow⟩ := h
  have HST := Lib.hid (stN_len m (m.length / 64))
  have HZZ := Lib.hid hz
  have HROW := Lib.hid hrow
  have HBL := Lib.hid hib.1
  have HIB := Lib.hid hib
  have HIN := Lib.hid hin
  have y73 := (row_cell hrow 73).trans (hash_at73 HST.out hib.1)
  have x73 := row_free hrow 73
  have HTAB := Lib.hid ht
  clear hrow hz hin ht hib
  have ez : IntKind.u64.wrap ((z : Int) + (n : Int)) = (z : Int) + (n : Int) := by have := HZZ.out; rw [IntKind.wrap_u64]; omega
  go_enter Tryd.func13, Tryd.ntmps13
  go_wp2_with fail
  have HR0 := Lib.hid (show (w.setCell ⟨g, 73, none⟩ (.int .u64 ((z : Int) + n))).heap[g]? = some (.cells (hashC (stN m (m.length / 64)) bk ((m.length % 64 : Nat) : Int) ((z : Int) + n)) 56 (0, 0)) by
    rw [heap_setCell_same _ _ _ _ _ _ HROW.out, ← hash_z (x := (z : Int) + n) HST.out HBL.out])
  have HG0 := Lib.hid (grown_setCell (o := 73) (.int .u64 ((z : Int) + n)) (grown_of_below (Below.refl w.heap.size w) (some g)))
  go_loopw [6, 7] (fun v x wr => ∃ j p' c' bk', j ≤ n ∧ v = .slice p' (n - j) c' ∧ n - j ≤ c' ∧ (p' = none → c' = 0) ∧ BytesIn wr p' (b.drop j) ∧ (∀ a, p' = some a → a.block ≠ g) ∧ InBlock (m ++ b.take j) bk' ∧ wr.heap[g]? = some (.cells (hashC (stN (m ++ b.take j) ((m ++ b.take j).length / 64)) bk' (((m ++ b.take j).length % 64 : Nat) : Int) ((z : Int) + n)) 56 (0, 0)) ∧ w.grownBy wr (some g)) (fun v _ _ => lenOf v)
  case atStart => exact ⟨0, p, c, bk, Nat.zero_le _, rfl, (by omega : n - 0 ≤ c), hpn, by rw [List.drop_zero]; exact BytesIn.far HIN.out HG0.out (fun a ha e => hne a ha (Option.some.inj e)), hne, by rw [List.take_zero, List.append_nil]; exact HIB.out, by rw [List.take_zero, List.append_nil]; exact HR0.out, HG0.out⟩
  case round =>
    clear HR0 HG0 HIB HROW HBL HST HIN hne hpn hnc y73 x73
    obtain ⟨j, p', c', bk', hj, rfl, hnc, hpn, hin, hne, hib, hrow, hgr⟩ := hrel
    have HROW := Lib.hid hrow
    have HIB := Lib.hid hib
    have HIN := Lib.hid hin
    have HNE := Lib.hid hne
    have HGR := Lib.hid hgr
    have HPN := Lib.hid hpn
    clear hrow hib hin hne hgr hpn
    by_cases hlt : j < n
    · obtain ⟨M, hM⟩ : ∃ M, M = m ++ b.take j := ⟨_, rfl⟩
      rw [← hM] at HROW HIB
      have HM := Lib.hid hM
      clear hM
      obtain ⟨u, hu⟩ : ∃ u, u = M.length % 64 := ⟨_, rfl⟩
      have HST := Lib.hid (stN_len M (M.length / 64))
      have hu64 : u < 64 := by rw [hu]; omega
      rw [← hu] at HROW
      have HU := Lib.hid hu
      clear hu
      obtain ⟨ad, rfl⟩ : ∃ ad, p' = some ad := by
        obtain ⟨ad, e, _⟩ := HIN.out 0 (by rw [List.length_drop]; omega)
        exact ⟨ad, e⟩
      have y72 := (row_cell HROW.out 72).trans (hash_at72 HST.out HIB.out.1)
      have x72 := row_free HROW.out 72
      have hl1 : 0 < n - j := by omega
      have hl2 : (0 : Int) < ((n - j : Nat) : Int) := by omega
      have q0 : 0 ≤ (u : Int) := by omega
      have q1 : (u : Int) ≤ 64 := by omega
      have q2 : (u : Int) < 64 := by omega
      go_wp2_with fail
      go_still_tail 9, (by kernel_rfl)
      change wpList _ _ _ _ _ (World.drew _)
      obtain ⟨k, hk⟩ : ∃ k, k = Nat.min (n - j) (64 - u) := ⟨_, rfl⟩
      obtain ⟨w1, hc1, hr1, hg1'⟩ := copy_hash (w := wr.drew) (sLen := n - j) (sCap := c') HST.out HIB.out.1 HROW.out HIN.out (by rw [List.length_drop, hn]) hu64 hk
      have HR1 := Lib.hid hr1
      have HG1 := Lib.hid hg1'
      have HRUN := Lib.hid hc1
      have HSL := Lib.hid (show (splice bk' u ((b.drop j).take k)).length = 64 by
        have h9 : k ≤ 64 - u := by rw [hk]; exact Nat.min_le_right _ _
        rw [length_splice _ _ _ (by rw [List.length_take, List.length_drop, HIB.out.1]; omega)]
        exact HIB.out.1)
      have z72 := (row_cell hr1 72).trans (hash_at72 HST.out HSL.out)
      have x72' := row_free hr1 72
      clear hc1 hr1 hg1' y72 x72
      go_wp2_with fail
      rw [HRUN.out]
      have hk1 : k ≤ n - j := by rw [hk]; exact Nat.min_le_left _ _
      have hk2 : k ≤ 64 - u := by rw [hk]; exact Nat.min_le_right _ _
      have hk0 : 0 < k := by rw [hk]; exact Nat.lt_min.2 ⟨by omega, by omega⟩
      have HK := Lib.hid hk
      clear hk
      have eu : IntKind.i64.wrap ((u : Int) + (k : Int)) = (u : Int) + (k : Int) := IntWalk.i64_in _ (by omega)
      go_wp2_with ((with_reducible refine guard_list ?_); refine held_from 30 _ _ rfl ?_)
      refine wpl_from rfl 5 Tryd.underlying30 (by kernel_rfl) _ _ rfl ad (n - j) c' k rfl rfl hk1 hnc fun p2 c2 hp2 hc2 hin2 => ?_
      have HIN2 := Lib.hid hin2
      clear hin2
      obtain ⟨bk2, hbk2⟩ : ∃ bk2, bk2 = splice bk' u ((b.drop j).take k) := ⟨_, rfl⟩
      rw [← hbk2] at HR1 HSL
      have HMK := Lib.hid (show m ++ b.take (j + k) = M ++ (b.drop j).take k by rw [HM.out, List.append_assoc, ← List.take_add])
      have HCL := Lib.hid (show ((b.drop j).take k).length = k by rw [List.length_take, List.length_drop]; omega)
      have HCB := Lib.hid (show Byt ((b.drop j).take k) from fun x hx => hby x (List.mem_of_mem_drop (List.mem_of_mem_take hx)))
      have HRQ := Lib.hid (show (w1.setCell ⟨g, 72, none⟩ (.int .i64 ((u : Int) + k))).heap[g]? = some (.cells (hashC (stN M (M.length / 64)) bk2 ((u : Int) + k) ((z : Int) + n)) 56 (0, 0)) by
        rw [heap_setCell_same _ _ _ _ _ _ HR1.out, ← hash_u (x := (u : Int) + k) HST.out HSL.out])
      have hgw : wr.grownBy (w1.setCell ⟨g, 72, none⟩ (.int .i64 ((u : Int) + k))) (some g) := grown_setCell (o := 72) (.int .i64 ((u : Int) + k)) ((grown_drew (grown_of_below (Below.refl wr.heap.size wr) (some g))).trans HG1.out)
      have HGQ := Lib.hid (HGR.out.trans hgw)
      have HINQ := Lib.hid (show BytesIn (w1.setCell ⟨g, 72, none⟩ (.int .i64 ((u : Int) + k))) (some p2) (b.drop (j + k)) by
        have h1 := HIN2.out (b.drop j) (by rw [List.length_drop, hn]) (BytesIn.far HIN.out hgw (fun a ha e => HNE.out a ha (Option.some.inj e)))
        rwa [List.drop_drop] at h1)
      have HNE2 := Lib.hid (show p2.block ≠ g from by rw [hp2]; exact HNE.out ad rfl)
      clear hgw
      have HMZ := Lib.hid hbk2
      clear hbk2 HIN2 HIN HRUN HG1 HR1 HGR
      by_cases hfull : u + k = 64
      · go_wp2_with (go_at_call 22; refine (round_any g (stN M (M.length / 64)) bk2 ((u : Int) + k) ((z : Int) + n) _ _ HST.out HSL.out (by rw [HMZ.out]; exact splice_byt HIB.out.2.1 HCB.out) HRQ.out (HTAB.out.grown HGQ.out hg1)).mono ?_; rintro e w5 ⟨rfl, hgr5, hr5⟩; have HR5 := Lib.hid hr5; have HG5 := Lib.hid hgr5; have v72 := (row_cell hr5 72).trans (hash_at72 (blockL_len HST.out) HSL.out); have f72 := row_free hr5 72; clear hr5 hgr5)
        go_roundw
        case rel =>
          obtain ⟨i1, i2, i3⟩ := HIB.out.full HCB.out (by rw [HCL.out, ← HU.out]; exact hfull)
          have hst : (w1.setCell ⟨g, 72, none⟩ (.int .i64 ((u : Int) + k))).grownBy (w5.setCell ⟨g, 72, none⟩ (.int .i64 0)) (some g) := grown_setCell (o := 72) (.int .i64 0) HG5.out
          refine ⟨j + k, some p2, c2, bk2, by omega, by rw [Nat.sub_add_eq], by omega, (fun h => absurd h (by simp)), HINQ.out.far hst (fun a ha e => HNE2.out (by rw [Option.some.inj ha]; exact Option.some.inj e)), (fun a ha e => HNE2.out (by rw [Option.some.inj ha]; exact e)), ?_, ?_, HGQ.out.trans hst⟩
          · rw [HMK.out, HMZ.out, HU.out]
            exact i1
          · rw [HMK.out, i2, i3, heap_setCell_same _ _ _ _ _ _ HR5.out, hash_u (blockL_len HST.out) HSL.out, HMZ.out, HU.out]
            rfl
        case measure => simp [lenOf]; omega
      · go_wp2_with fail
        go_roundw
        case rel =>
          obtain ⟨i1, i2, i3⟩ := HIB.out.part HCB.out (by rw [HCL.out, ← HU.out]; omega)
          refine ⟨j + k, some p2, c2, bk2, by omega, by rw [Nat.sub_add_eq], by omega, (fun h => absurd h (by simp)), HINQ.out, (fun a ha e => HNE2.out (by rw [Option.some.inj ha]; exact e)), ?_, ?_, HGQ.out⟩
          · rw [HMK.out, HMZ.out, HU.out]
            exact i1
          · rw [HMK.out, i3, i2, stN_left M _ _ (by omega), HCL.out, ← HU.out]
            exact HRQ.out
        case measure => simp [lenOf]; omega
    · obtain rfl : j = n := by omega
      go_wp2_with fail
      exact ⟨rfl, .tuple #[.int .i64 (j : Nat), .nilIface], by kernel_rfl, rfl, HGR.out, bk', by have := HIB.out; rwa [List.take_of_length_le (Nat.le_of_eq hn)] at this, by have := HROW.out; rwa [List.take_of_length_le (Nat.le_of_eq hn)] at this⟩
end Go.Proofs.YtemkpihfenokmaaDoor
