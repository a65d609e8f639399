/- A block goes into the state: (*digest.Hash).round. Condition: the program's variable digest.table is as its text lays it. -/
import Derived.Test.YtemkpihfenokmaaDoorShaB
import Derived.StillTailTactics
import Derived.Deep.CutRange
import Derived.Deep.RegionHeld
namespace Go.Proofs.YtemkpihfenokmaaDoor
open Go.RowKit
/-- The words k0 .. k63. -/
def K64 : List Int := [1116352408, 1899447441, 3049323471, 3921009573, 961987163, 1508970993, 2453635748, 2870763221, 3624381080, 310598401, 607225278, 1426881987, 1925078388, 2162078206, 2614888103, 3248222580, 3835390401, 4022224774, 264347078, 604807628, 770255983, 1249150122, 1555081692, 1996064986, 2554220882, 2821834349, 2952996808, 3210313671, 3336571891, 3584528711, 113926993, 338241895, 666307205, 773529912, 1294757372, 1396182291, 1695183700, 1986661051, 2177026350, 2456956037, 2730485921, 2820302411, 3259730800, 3345764771, 3516065817, 3600352804, 4094571909, 275423344, 430227734, 506948616, 659060556, 883997877, 958139571, 1322822218, 1537002063, 1747873779, 1955562222, 2024104815, 2227730452, 2361852424, 2428436474, 2756734187, 3204031479, 3329325298]
/-- The cells of a Hash. -/
def hashC (st bk : List Int) (u z : Int) : Array Value := (st.map (Value.int .u32) ++ bk.map (Value.int .u8) ++ [Value.int .i64 u, Value.int .u64 z]).toArray
theorem hash_bk {st bk : List Int} {u z : Int} {j : Nat} (hs : st.length = 8) (hb : bk.length = 64) (hj : j < 64) : (hashC st bk u z)[8 + j]? = some (.int .u8 (nth bk j)) := by
  have e : (hashC st bk u z)[8 + j]? = (st.map (Value.int .u32) ++ bk.map (Value.int .u8) ++ [Value.int .i64 u, Value.int .u64 z])[8 + j]? := by rw [hashC, List.getElem?_toArray]
  rw [e, List.append_assoc, List.getElem?_append_right (by rw [List.length_map]; omega), List.length_map, hs, Nat.add_sub_cancel_left, List.getElem?_append_left (by rw [List.length_map]; omega), List.getElem?_map, List.getElem?_eq_getElem (by omega)]
  simp only [Option.map_some, nth, List.getD_eq_getElem?_getD, List.getElem?_eq_getElem (show j < bk.length by omega), Option.getD_some]
/-- Word t of a block. -/
def wordAt (bk : List Int) (t : Nat) : Int := bits .or .u32 (bits .or .u32 (bits .or .u32 (nth bk (4 * t) * 16777216) (nth bk (4 * t + 1) * 65536)) (nth bk (4 * t + 2) * 256)) (nth bk (4 * t + 3))
theorem fill_set {f : Nat → Int} {k n : Nat} (hk : k < n) : (((List.range k).map f ++ List.replicate (n - k) 0).set k (f k)) = (List.range (k + 1)).map f ++ List.replicate (n - (k + 1)) 0 := by
  rw [List.set_append_right _ _ (by simp), List.length_map, List.length_range, Nat.sub_self, List.range_succ, List.map_append, List.append_assoc]
  obtain ⟨m, hm⟩ : ∃ m, n - k = m + 1 := ⟨n - k - 1, by omega⟩
  rw [hm, List.replicate_succ, List.set_cons_zero, show n - (k + 1) = m by omega]
  rfl
def sig0 (x : Int) : Int := bits .xor .u32 (bits .xor .u32 (turn 33554432 128 x) (turn 16384 262144 x)) (x / 8)
def sig1 (y : Int) : Int := bits .xor .u32 (bits .xor .u32 (turn 32768 131072 y) (turn 8192 524288 y)) (y / 1024)
/-- The words of a block, n more of them. -/
def schedL (ws : List Int) : Nat → List Int
  | 0 => ws
  | n + 1 => schedL ws n ++ [(nth (schedL ws n) n + sig0 (nth (schedL ws n) (n + 1)) + nth (schedL ws n) (n + 9) + sig1 (nth (schedL ws n) (n + 14))) % 4294967296]
theorem schedL_len (ws : List Int) : ∀ n, (schedL ws n).length = ws.length + n
  | 0 => rfl
  | n + 1 => by rw [schedL, List.length_append, schedL_len ws n, List.length_singleton]; omega
theorem schedL_step (ws : List Int) {t : Nat} (h : 16 ≤ t) : schedL ws (t + 1 - 16) = schedL ws (t - 16) ++ [(nth (schedL ws (t - 16)) (t - 16) + sig0 (nth (schedL ws (t - 16)) (t - 15)) + nth (schedL ws (t - 16)) (t - 7) + sig1 (nth (schedL ws (t - 16)) (t - 2))) % 4294967296] := by
  obtain ⟨n, rfl⟩ : ∃ n, t = n + 16 := ⟨t - 16, by omega⟩
  rw [show n + 16 + 1 - 16 = n + 1 by omega, show n + 16 - 16 = n by omega, show n + 16 - 15 = n + 1 by omega, show n + 16 - 7 = n + 9 by omega, show n + 16 - 2 = n + 14 by omega, schedL]
theorem nth_left {l m : List Int} {j : Nat} (h : j < l.length) : nth (l ++ m) j = nth l j := by
  simp only [nth, List.getD_eq_getElem?_getD, List.getElem?_append_left h]
theorem set_right {l : List Int} {k n : Nat} (x : Int) (hl : l.length = k) (hk : k < n) : (l ++ List.replicate (n - k) 0).set k x = l ++ [x] ++ List.replicate (n - (k + 1)) 0 := by
  rw [List.set_append_right _ _ (by omega), hl, Nat.sub_self]
  obtain ⟨m, hm⟩ : ∃ m, n - k = m + 1 := ⟨n - k - 1, by omega⟩
  rw [hm, List.replicate_succ, List.set_cons_zero, show n - (k + 1) = m by omega, List.append_assoc]
  rfl
/-- The sixteen words that a block's bytes are. -/
def wordsOf (bk : List Int) : List Int := (List.range 16).map (wordAt bk)
section
variable {o : Oper} {a : Act} {w : World} {Q : Exit → Act → World → Prop} {ops : Array Oper} {rest : List Oper} {P : Program}
theorem wpl_ld_at2 (hw : Region.wanted o (yielded ops a.tmps) = true) (ty : TypeId) (x : Operand) (ho : o.op = .load ty x) (ad : Addr) (hx : a.eval x = .pointer (some ad)) (cs : Array Value) (n : Nat) (hT : RowT P ty n) (hn : cs.size = n) (hc : CellsAt w ad cs)
    (h : wpList P ops Q rest (a.put o.dst (.agg cs)) w) : wpList P ops Q (o :: rest) a w := by
  refine wpList_step fun K hK => ?_
  rw [if_pos hw]
  refine wp_val (.agg cs) ?_ (hK _ _ h)
  unfold execOp; rw [ho]
  show ((do let z ← Instr.loadAt ty (a.eval x); pure (Next.value z)) : Sem Next).run P w = _
  rw [hx, Sem.run_bind, run_load_at hT hn hc]
  rfl
end
def stepV (l : List Int) (kw : Int) : List Int := stepL (nth l 0) (nth l 1) (nth l 2) (nth l 3) (nth l 4) (nth l 5) (nth l 6) (nth l 7) kw
/-- The eight words behind k steps. -/
def runL (W st : List Int) : Nat → List Int
  | 0 => st
  | k + 1 => stepV (runL W st k) ((nth K64 k + nth W k) % 4294967296)
theorem runL_len {W st : List Int} (h : st.length = 8) : ∀ k, (runL W st k).length = 8
  | 0 => h
  | _ + 1 => rfl
theorem eight {l : List Int} (h : l.length = 8) : ∃ a b c d e f g z, l = [a, b, c, d, e, f, g, z] := by
  match l, h with
  | [a, b, c, d, e, f, g, z], _ => exact ⟨a, b, c, d, e, f, g, z, rfl⟩
theorem hash_st {st bk : List Int} {u z : Int} {j : Nat} (hs : st.length = 8) (hj : j < 8) : (hashC st bk u z)[j]? = some (.int .u32 (nth st j)) := by
  have e : (hashC st bk u z)[j]? = (st.map (Value.int .u32) ++ bk.map (Value.int .u8) ++ [Value.int .i64 u, Value.int .u64 z])[j]? := by rw [hashC, List.getElem?_toArray]
  rw [e, List.append_assoc, List.getElem?_append_left (by rw [List.length_map]; omega), List.getElem?_map, List.getElem?_eq_getElem (by omega)]
  simp only [Option.map_some, nth, List.getD_eq_getElem?_getD, List.getElem?_eq_getElem (show j < st.length by omega), Option.getD_some]
theorem hash_set {st bk : List Int} {u z x : Int} {j : Nat} (hs : st.length = 8) (hj : j < 8) : (hashC st bk u z).setIfInBounds j (.int .u32 x) = hashC (st.set j x) bk u z := by
  apply Array.ext'
  simp only [hashC, Array.toList_setIfInBounds, List.map_set]
  rw [List.append_assoc, List.set_append_left _ _ (by rw [List.length_map]; omega), List.append_assoc]
theorem cells_st {w : World} {g : Nat} {st bk : List Int} {u z : Int} {t : TypeId} (hs : st.length = 8) (h : w.heap[g]? = some (.cells (hashC st bk u z) t (0, 0))) : CellsAt w ⟨g, 0, none⟩ (words st) := fun j v hv => by
  have hj : j < 8 := by
    have := (Array.getElem?_eq_some_iff.1 hv).1
    rw [words_size, hs] at this
    exact this
  rw [add_lit, row_cell h j, hash_st hs hj, ← words_get (by omega)]
  exact hv
theorem yieldsIf_cell3 {P : Program} {ops : Array Oper} {S : World → Prop} {op : Oper} {a : Act} (hw : Region.wanted op (yielded ops a.tmps) = true) (ty : TypeId) (x : Operand) (ho : op.op = .load ty x)
    (ad : Addr) (hx : a.eval x = .pointer (some ad)) (v : Value) (hS : ∀ w, S w → w.cell? ad = some v) (hT : CellT P ty) : YieldsIf P ops S op v a := by
  refine .inl ⟨hw, fun w hw' => ?_⟩
  unfold execOp; rw [ho]
  show ((do let z ← Instr.loadAt ty (a.eval x); pure (Next.value z)) : Sem Next).run P w = _
  rw [hx, Sem.run_bind, run_load_cell hT (hS w hw')]
  rfl
theorem tU32 : CellT Tryd.prog 49 := ⟨_, Tryd.underlying49, rfl⟩
/-- The state behind a block: the first k words are reckoned. -/
def addL (st V : List Int) (k : Nat) : List Int := (List.range k).map (fun i => (nth st i + nth V i) % 4294967296) ++ st.drop k
/-- The state behind a block. -/
def blockL (st bk : List Int) : List Int := addL st (runL (schedL (wordsOf bk) 48) st 64) 8
theorem addL_zero (st V : List Int) : addL st V 0 = st := rfl
theorem addL_len {st V : List Int} {k : Nat} (hs : st.length = 8) (_hv : V.length = 8) (hk : k ≤ 8) : (addL st V k).length = 8 := by
  simp only [addL, List.length_append, List.length_map, List.length_range, List.length_drop, hs]
  omega
theorem addL_here {st V : List Int} {k : Nat} (_hs : st.length = 8) (_hv : V.length = 8) (_hk : k < 8) : nth (addL st V k) k = nth st k := by
  simp only [nth, List.getD_eq_getElem?_getD, addL]
  rw [List.getElem?_append_right (by simp), List.length_map, List.length_range, Nat.sub_self, List.getElem?_drop, Nat.add_zero]
theorem addL_set {st V : List Int} {k : Nat} (hs : st.length = 8) (_hv : V.length = 8) (hk : k < 8) : (addL st V k).set k ((nth st k + nth V k) % 4294967296) = addL st V (k + 1) := by
  rw [addL, List.set_append_right _ _ (by simp), List.length_map, List.length_range, Nat.sub_self, List.drop_eq_getElem_cons (by omega), List.set_cons_zero, addL, List.range_succ, List.map_append, List.append_assoc]
  rfl
theorem grown_setCell {w wr : World} {g o : Nat} (v : Value) (h : w.grownBy wr (some g)) : w.grownBy (wr.setCell ⟨g, o, none⟩ v) (some g) :=
  ⟨h.os, h.tape, h.output, by rw [World.size_setCell]; exact h.size, fun k hk hne => (heap_setCell_other wr ⟨g, o, none⟩ k v (fun e => hne (by rw [e]))).trans (h.block k hk hne)⟩
theorem grown_drew {w wr : World} {r : Option Nat} (h : w.grownBy wr r) : w.grownBy wr.drew r := ⟨h.os, h.tape, h.output, h.size, h.block⟩
/-- The table lies in block 1. -/
def Tab (w : World) : Prop := 1 < w.heap.size ∧ ∀ j, j < 64 → w.cell? ⟨1, j, none⟩ = some (.int .u32 (nth K64 j))
theorem tW64 : RowT Tryd.prog 59 64 := ⟨_, Tryd.underlying59, rfl, by kernel_rfl⟩
set_option maxHeartbeats 4000000 in
set_option maxRecDepth 100000 in
theorem round_any (g : Nat) (st bk : List Int) (u z : Int) (t : TypeId) (w : World) (hs : st.length = 8) (hb : bk.length = 64) (hby : Byt bk) (hr : w.heap[g]? = some (.cells (hashC st bk u z) t (0, 0))) (ht : Tab w) :
    Calls Tryd.prog 22 #[.pointer (some ⟨g, 0, none⟩)] w (fun e w' => e = .returned (.tuple #[]) ∧ w.grownBy w' (some g) ∧ w'.heap[g]? = some (.cells (hashC (blockL st bk) bk u z) t (0, 0))) := by
  have HROW := Lib.hid hr
  have HS := Lib.hid hs
  have HBK := Lib.hid hb
  have HBY := Lib.hid hby
  have hg := (Array.getElem?_eq_some_iff.1 hr).1
  have HG := Lib.hid hg
  have HI := Lib.hid ((Below.refl w.heap.size w).alloc (Nat.le_refl _) (.cells (words (List.replicate 64 0)) 59))
  have HTAB := Lib.hid ht
  clear hs hb hby hr hg ht
  go_enter Tryd.func22, Tryd.ntmps22
  go_wp2_with fail
  go_loopw [12] (fun i wr => ∃ k : Nat, k ≤ 16 ∧ i = .int .i64 (k : Nat) ∧ wr.heap[g]? = some (.cells (hashC st bk u z) t (0, 0)) ∧ wr.heap[w.heap.size]? = some (.cells (words ((List.range k).map (wordAt bk) ++ List.replicate (64 - k) 0)) 59 (0, 0)) ∧ Below w.heap.size w wr) (fun i _ => 16 - (intOf i).toNat)
  case atStart => exact ⟨0, by omega, rfl, row_call HI.out HROW.out, heap_alloc_new w _, HI.out⟩
  case round =>
    obtain ⟨k, hk, rfl, hr1, hr2, hb⟩ := hrel
    have HR1 := Lib.hid hr1
    have HR2 := Lib.hid hr2
    have HB := Lib.hid hb
    clear hr1 hr2 hb
    by_cases hlt : k < 16
    · have c0 : wr.cell? ⟨g, 8 + 4 * k, none⟩ = some (.int .u8 (nth bk (4 * k))) := (row_cell HR1.out _).trans (hash_bk HS.out HBK.out (by omega))
      have c1 : wr.cell? ⟨g, 8 + (4 * k + 1), none⟩ = some (.int .u8 (nth bk (4 * k + 1))) := (row_cell HR1.out _).trans (hash_bk HS.out HBK.out (by omega))
      have c2 : wr.cell? ⟨g, 8 + (4 * k + 2), none⟩ = some (.int .u8 (nth bk (4 * k + 2))) := (row_cell HR1.out _).trans (hash_bk HS.out HBK.out (by omega))
      have c3 : wr.cell? ⟨g, 8 + (4 * k + 3), none⟩ = some (.int .u8 (nth bk (4 * k + 3))) := (row_cell HR1.out _).trans (hash_bk HS.out HBK.out (by omega))
      go_wp2_with fail
      have e0 : IntKind.i64.wrap (4 * (k : Int)) = 4 * (k : Int) := IntWalk.i64_in _ (by omega)
      have e1 : IntKind.i64.wrap (4 * (k : Int) + 1) = 4 * (k : Int) + 1 := IntWalk.i64_in _ (by omega)
      have e2 : IntKind.i64.wrap (4 * (k : Int) + 2) = 4 * (k : Int) + 2 := IntWalk.i64_in _ (by omega)
      have e3 : IntKind.i64.wrap (4 * (k : Int) + 3) = 4 * (k : Int) + 3 := IntWalk.i64_in _ (by omega)
      have n0 : (4 * (k : Int)).toNat = 4 * k := by omega
      have n1 : (4 * (k : Int) + 1).toNat = 4 * k + 1 := by omega
      have n2 : (4 * (k : Int) + 2).toNat = 4 * k + 2 := by omega
      have n3 : (4 * (k : Int) + 3).toNat = 4 * k + 3 := by omega
      have b0 : 0 ≤ 4 * (k : Int) := by omega
      have b1 : 4 * (k : Int) + 3 < 64 := by omega
      have l0 : 4 * (k : Int) < 64 := by omega
      have p0 : ¬ 4 * (k : Int) < 0 := by omega
      have g0 : ¬ 64 ≤ 4 * (k : Int) := by omega
      have l1 : 4 * (k : Int) + 1 < 64 := by omega
      have p1 : ¬ 4 * (k : Int) + 1 < 0 := by omega
      have g1 : ¬ 64 ≤ 4 * (k : Int) + 1 := by omega
      have l2 : 4 * (k : Int) + 2 < 64 := by omega
      have p2 : ¬ 4 * (k : Int) + 2 < 0 := by omega
      have g2 : ¬ 64 ≤ 4 * (k : Int) + 2 := by omega
      have l3 : 4 * (k : Int) + 3 < 64 := by omega
      have p3 : ¬ 4 * (k : Int) + 3 < 0 := by omega
      have g3 : ¬ 64 ≤ 4 * (k : Int) + 3 := by omega
      have q1 : 0 ≤ 4 * (k : Int) + 1 := by omega
      have q2 : 0 ≤ 4 * (k : Int) + 2 := by omega
      have q3 : 0 ≤ 4 * (k : Int) + 3 := by omega
      have qk : 0 ≤ (k : Int) := by omega
      have lk : (k : Int) < 64 := by omega
      have hx0 := HBY.out.nth (4 * k)
      have w0 : IntKind.u32.wrap (nth bk (4 * k)) = nth bk (4 * k) := by rw [IntKind.wrap_u32]; omega
      have hx1 := HBY.out.nth (4 * k + 1)
      have w1 : IntKind.u32.wrap (nth bk (4 * k + 1)) = nth bk (4 * k + 1) := by rw [IntKind.wrap_u32]; omega
      have hx2 := HBY.out.nth (4 * k + 2)
      have w2 : IntKind.u32.wrap (nth bk (4 * k + 2)) = nth bk (4 * k + 2) := by rw [IntKind.wrap_u32]; omega
      have hx3 := HBY.out.nth (4 * k + 3)
      have w3 : IntKind.u32.wrap (nth bk (4 * k + 3)) = nth bk (4 * k + 3) := by rw [IntKind.wrap_u32]; omega
      have v0 : IntKind.u32.wrap (nth bk (4 * k) * 16777216) = nth bk (4 * k) * 16777216 := by rw [IntKind.wrap_u32]; omega
      have v1 : IntKind.u32.wrap (nth bk (4 * k + 1) * 65536) = nth bk (4 * k + 1) * 65536 := by rw [IntKind.wrap_u32]; omega
      have v2 : IntKind.u32.wrap (nth bk (4 * k + 2) * 256) = nth bk (4 * k + 2) * 256 := by rw [IntKind.wrap_u32]; omega
      have HLW := Lib.hid (show ((List.range k).map (wordAt bk) ++ List.replicate (64 - k) 0).length = 64 by simp; omega)
      have x2 := (row_cell HR2.out k).trans (words_get (by rw [HLW.out]; omega))
      have x3 := row_free HR2.out k
      generalize nth ((List.range k).map (wordAt bk) ++ List.replicate (64 - k) 0) k = old at x2
      go_still_tail 43, (by kernel_rfl)
      have HR1' := Lib.hid ((heap_setCell_other wr ⟨w.heap.size, k, none⟩ g (.int .u32 (wordAt bk k)) (Nat.ne_of_lt HG.out)).trans HR1.out)
      have HR2' := Lib.hid (show (wr.setCell ⟨w.heap.size, k, none⟩ (.int .u32 (wordAt bk k))).heap[w.heap.size]? = some (.cells (words ((List.range (k + 1)).map (wordAt bk) ++ List.replicate (64 - (k + 1)) 0)) 59 (0, 0)) by
        rw [heap_setCell_same _ _ _ _ _ _ HR2.out, ← fill_set (f := wordAt bk) (show k < 64 by omega), ← words_set])
      have HB' := Lib.hid (HB.out.setCell (p := ⟨w.heap.size, k, none⟩) (Nat.le_refl _) (.int .u32 (wordAt bk k)))
      change wpList _ _ _ _ _ (World.drew _)
      go_wp2_with fail
      go_roundw
      case rel => exact ⟨k + 1, by omega, by go_num, HR1'.out, HR2'.out, HB'.out.drew⟩
      case measure => simp [intOf]; omega
    · obtain rfl : k = 16 := by omega
      clear hlt hk
      go_wp2_with fail
      go_loopw [4] (fun i wr => ∃ t1 : Nat, 16 ≤ t1 ∧ t1 ≤ 64 ∧ i = .int .i64 (t1 : Nat) ∧ wr.heap[g]? = some (.cells (hashC st bk u z) t (0, 0)) ∧ wr.heap[w.heap.size]? = some (.cells (words (schedL (wordsOf bk) (t1 - 16) ++ List.replicate (64 - t1) 0)) 59 (0, 0)) ∧ Below w.heap.size w wr) (fun i _ => 64 - (intOf i).toNat)
      case atStart => exact ⟨16, by omega, by omega, rfl, HR1.out, HR2.out, HB.out⟩
      case round =>
        clear HR1 HR2 HB
        obtain ⟨t1, h16, h64, rfl, hr1, hr2, hb⟩ := hrel
        have HR1 := Lib.hid hr1
        have HR2 := Lib.hid hr2
        have HB := Lib.hid hb
        clear hr1 hr2 hb
        by_cases hlt : t1 < 64
        · have HSL := Lib.hid (show (schedL (wordsOf bk) (t1 - 16)).length = t1 by rw [schedL_len, wordsOf, List.length_map, List.length_range]; omega)
          have HST := Lib.hid (schedL_step (wordsOf bk) h16)
          generalize schedL (wordsOf bk) (t1 - 16) = S at *
          have HLW := Lib.hid (show (S ++ List.replicate (64 - t1) 0).length = 64 by rw [List.length_append, HSL.out, List.length_replicate]; omega)
          have e15 : IntKind.i64.wrap ((t1 : Int) - 15) = (t1 : Int) - 15 := IntWalk.i64_in _ (by omega)
          have n15 : ((t1 : Int) - 15).toNat = t1 - 15 := by omega
          have q15 : 0 ≤ (t1 : Int) - 15 := by omega
          have l15 : (t1 : Int) - 15 < 64 := by omega
          have y15 := (row_cell HR2.out (t1 - 15)).trans ((words_get (by rw [HLW.out]; omega)).trans (by rw [nth_left (by rw [HSL.out]; omega)]))
          have e2 : IntKind.i64.wrap ((t1 : Int) - 2) = (t1 : Int) - 2 := IntWalk.i64_in _ (by omega)
          have n2 : ((t1 : Int) - 2).toNat = t1 - 2 := by omega
          have q2 : 0 ≤ (t1 : Int) - 2 := by omega
          have l2 : (t1 : Int) - 2 < 64 := by omega
          have y2 := (row_cell HR2.out (t1 - 2)).trans ((words_get (by rw [HLW.out]; omega)).trans (by rw [nth_left (by rw [HSL.out]; omega)]))
          have e16 : IntKind.i64.wrap ((t1 : Int) - 16) = (t1 : Int) - 16 := IntWalk.i64_in _ (by omega)
          have n16 : ((t1 : Int) - 16).toNat = t1 - 16 := by omega
          have q16 : 0 ≤ (t1 : Int) - 16 := by omega
          have l16 : (t1 : Int) - 16 < 64 := by omega
          have e7 : IntKind.i64.wrap ((t1 : Int) - 7) = (t1 : Int) - 7 := IntWalk.i64_in _ (by omega)
          have n7 : ((t1 : Int) - 7).toNat = t1 - 7 := by omega
          have q7 : 0 ≤ (t1 : Int) - 7 := by omega
          have l7 : (t1 : Int) - 7 < 64 := by omega
          have qk : 0 ≤ (t1 : Int) := by omega
          have lk : (t1 : Int) < 64 := by omega
          go_wp2_with fail
          go_quiet (fail)
          have HQ1 := Lib.hid (show (wr.drewN nq).heap[g]? = some (.cells (hashC st bk u z) t (0, 0)) from HR1.out)
          have HQ2 := Lib.hid (show (wr.drewN nq).heap[w.heap.size]? = some (.cells (words (S ++ List.replicate (64 - t1) 0)) 59 (0, 0)) from HR2.out)
          have HQB := Lib.hid (below_drn HB.out nq)
          clear y15 y2 HR1 HR2 HB
          generalize wr.drewN nq = w2 at *
          have y16 := (row_cell HQ2.out (t1 - 16)).trans ((words_get (by rw [HLW.out]; omega)).trans (by rw [nth_left (by rw [HSL.out]; omega)]))
          have y7 := (row_cell HQ2.out (t1 - 7)).trans ((words_get (by rw [HLW.out]; omega)).trans (by rw [nth_left (by rw [HSL.out]; omega)]))
          have x2 := (row_cell HQ2.out t1).trans (words_get (by rw [HLW.out]; omega))
          have x3 := row_free HQ2.out t1
          generalize nth (S ++ List.replicate (64 - t1) 0) t1 = old at x2
          have T7 : True := trivial
          have T18 : True := trivial
          have T17 : True := trivial
          have T19 : True := trivial
          go_wp2_with first
            | (go_at_call 27; refine ((fun (_ : True) => rotL_7 _ _) T7).mono ?_; rintro e w2 ⟨rfl, rfl⟩; clear T7)
            | (go_at_call 27; refine ((fun (_ : True) => rotL_18 _ _) T18).mono ?_; rintro e w2 ⟨rfl, rfl⟩; clear T18)
            | (go_at_call 27; refine ((fun (_ : True) => rotL_17 _ _) T17).mono ?_; rintro e w2 ⟨rfl, rfl⟩; clear T17)
            | (go_at_call 27; refine ((fun (_ : True) => rotL_19 _ _) T19).mono ?_; rintro e w2 ⟨rfl, rfl⟩; clear T19)
          have f16 : (16 : Int) ≤ t1 := by omega
          have f7 : (7 : Int) ≤ t1 := by omega
          have h80 : (t1 : Int) < 80 := by omega
          have h71 : (t1 : Int) < 71 := by omega
          have h80' : (t1 : Int) < 64 + 16 := by omega
          have h71' : (t1 : Int) < 64 + 7 := by omega
          go_still_tail 15, (by kernel_rfl)
          have HR1' := Lib.hid ((heap_setCell_other w2 ⟨w.heap.size, t1, none⟩ g (.int .u32 ((nth S (t1 - 16) + sig0 (nth S (t1 - 15)) + nth S (t1 - 7) + sig1 (nth S (t1 - 2))) % 4294967296)) (Nat.ne_of_lt HG.out)).trans HQ1.out)
          have HR2' := Lib.hid (show (w2.setCell ⟨w.heap.size, t1, none⟩ (.int .u32 ((nth S (t1 - 16) + sig0 (nth S (t1 - 15)) + nth S (t1 - 7) + sig1 (nth S (t1 - 2))) % 4294967296))).heap[w.heap.size]? = some (.cells (words (schedL (wordsOf bk) (t1 + 1 - 16) ++ List.replicate (64 - (t1 + 1)) 0)) 59 (0, 0)) by
            rw [heap_setCell_same _ _ _ _ _ _ HQ2.out, HST.out, ← set_right _ HSL.out hlt, ← words_set])
          have HB' := Lib.hid (HQB.out.setCell (p := ⟨w.heap.size, t1, none⟩) (Nat.le_refl _) (.int .u32 ((nth S (t1 - 16) + sig0 (nth S (t1 - 15)) + nth S (t1 - 7) + sig1 (nth S (t1 - 2))) % 4294967296)))
          change wpList _ _ _ _ _ (World.drew _)
          go_wp2_with fail
          go_roundw
          case rel =>
            repeat apply Exists.intro
            refine ⟨⟨t1 + 1, by omega, by omega, ?_, HR1'.out, HR2'.out, HB'.out.drew⟩, rfl⟩
            go_num
          case measure => simp [intOf]; omega
        · obtain rfl : t1 = 64 := by omega
          clear hlt h16 h64
          obtain ⟨SL, hSL⟩ : ∃ SL, SL = schedL (wordsOf bk) 48 := ⟨_, rfl⟩
          have HSLE := Lib.hid hSL
          have HSL := Lib.hid (show SL.length = 64 by rw [hSL, schedL_len, wordsOf, List.length_map, List.length_range])
          replace HR2 := Lib.hid (show wr.heap[w.heap.size]? = some (.cells (words SL) 59 (0, 0)) by have h1 := HR2.out; rw [show 64 - 64 = 0 from rfl, List.replicate_zero, List.append_nil, show 64 - 16 = 48 from rfl, ← hSL] at h1; exact h1)
          clear hSL
          have HWS := Lib.hid (show (words st).size = 8 by rw [words_size, HS.out])
          go_wp2_with first
            | ((with_reducible refine guard_list ?_); refine held_load 50 _ rfl ?_; refine wpl_ld_at2 rfl _ _ rfl ⟨g, 0, none⟩ rfl (words st) 8 tW8 HWS.out (cells_st HS.out HR1.out) ?_)
            | ((with_reducible refine guard_list ?_); refine held_st 50 _ _ rfl ?_; refine st_row rfl _ _ _ rfl _ (words st) rfl rfl _ _ (heap_alloc_new wr _) 8 tW8 HWS.out rfl (words_one _) ?_; rw [World.setRow_alloc_new])
          have HA := Lib.hid ((Below.refl wr.heap.size wr).alloc (Nat.le_refl _) (.cells (words st) 50))
          obtain ⟨gv, hgv⟩ : ∃ gv, gv = wr.heap.size := ⟨_, rfl⟩
          have HR3 := Lib.hid (show (wr.alloc (.cells (words st) 50)).heap[gv]? = some (.cells (words st) 50 (0, 0)) by rw [hgv]; exact heap_alloc_new wr _)
          have HGV := Lib.hid (show g < gv ∧ w.heap.size < gv from by rw [hgv]; exact ⟨(Array.getElem?_eq_some_iff.1 HR1.out).1, (Array.getElem?_eq_some_iff.1 HR2.out).1⟩)
          replace HR1 := Lib.hid (row_call HA.out HR1.out)
          replace HR2 := Lib.hid (row_call HA.out HR2.out)
          replace HB := Lib.hid (below_call HA.out HB.out)
          rw [← hgv]
          clear HA hgv
          go_loopw [106] (fun i wr => ∃ k3 : Nat, k3 ≤ 64 ∧ i = .int .i64 (k3 : Nat) ∧ wr.heap[g]? = some (.cells (hashC st bk u z) t (0, 0)) ∧ wr.heap[w.heap.size]? = some (.cells (words SL) 59 (0, 0)) ∧ wr.heap[gv]? = some (.cells (words (runL SL st k3)) 50 (0, 0)) ∧ Below w.heap.size w wr) (fun i _ => 64 - (intOf i).toNat)
          case atStart => exact ⟨0, by omega, rfl, HR1.out, HR2.out, HR3.out, HB.out⟩
          case round =>
            clear HR1 HR2 HR3 HB
            obtain ⟨k3, hk3, rfl, hr1, hr2, hr3, hb⟩ := hrel
            have HR1 := Lib.hid hr1
            have HR2 := Lib.hid hr2
            have HB := Lib.hid hb
            clear hr1 hr2 hb
            by_cases hlt : k3 < 64
            · obtain ⟨a0, a1, a2, a3, a4, a5, a6, a7, ha⟩ := eight (runL_len (W := SL) HS.out k3)
              have HRU := Lib.hid (show runL SL st (k3 + 1) = stepL a0 a1 a2 a3 a4 a5 a6 a7 ((nth K64 k3 + nth SL k3) % 4294967296) by rw [runL, ha]; rfl)
              rw [ha] at hr3
              have HR3 := Lib.hid hr3
              have HTC := Lib.hid (show ∀ w', Below w.heap.size w w' → w'.cell? ⟨1, k3, none⟩ = some (.int .u32 (nth K64 k3)) from fun w' h => (World.cell?_of_block (h.block 1 HTAB.out.1)).trans (HTAB.out.2 k3 hlt))
              have qk : 0 ≤ (k3 : Int) := by omega
              have lk : (k3 : Int) < 64 := by omega
              clear hr3 ha
              have v0 : wr.cell? ⟨gv, 0, none⟩ = some (.int .u32 a0) := (row_cell HR3.out 0).trans (by rfl)
              have v1 : wr.cell? ⟨gv, 1, none⟩ = some (.int .u32 a1) := (row_cell HR3.out 1).trans (by rfl)
              have v2 : wr.cell? ⟨gv, 2, none⟩ = some (.int .u32 a2) := (row_cell HR3.out 2).trans (by rfl)
              have v3 : wr.cell? ⟨gv, 3, none⟩ = some (.int .u32 a3) := (row_cell HR3.out 3).trans (by rfl)
              have v4 : wr.cell? ⟨gv, 4, none⟩ = some (.int .u32 a4) := (row_cell HR3.out 4).trans (by rfl)
              have v5 : wr.cell? ⟨gv, 5, none⟩ = some (.int .u32 a5) := (row_cell HR3.out 5).trans (by rfl)
              have v6 : wr.cell? ⟨gv, 6, none⟩ = some (.int .u32 a6) := (row_cell HR3.out 6).trans (by rfl)
              have v7 : wr.cell? ⟨gv, 7, none⟩ = some (.int .u32 a7) := (row_cell HR3.out 7).trans (by rfl)
              have y1 := HTC.out wr HB.out
              have y2 : wr.cell? ⟨w.heap.size, k3, none⟩ = some (.int .u32 (nth SL k3)) := (row_cell HR2.out k3).trans (words_get (by rw [HSL.out]; exact hlt))
              go_wp2_with fail
              go_still_tail 8, (by kernel_rfl)
              change wpList _ _ _ _ _ (World.drew _)
              have HD := Lib.hid (show wr.drew.heap[gv]? = some (.cells (words [a0, a1, a2, a3, a4, a5, a6, a7]) 50 (0, 0)) ∧ wr.drew.heap[g]? = some (.cells (hashC st bk u z) t (0, 0)) ∧ wr.drew.heap[w.heap.size]? = some (.cells (words SL) 59 (0, 0)) ∧ Below w.heap.size w wr.drew from ⟨HR3.out, HR1.out, HR2.out, HB.out.drew⟩)
              clear v0 v1 v2 v3 v4 v5 v6 v7 y1 y2 HTC HR1 HR2 HR3 HB
              generalize World.drew wr = w2 at *
              go_wp2_with first
                | (go_at_call 28; refine (step_any a0 a1 a2 a3 a4 a5 a6 a7 _ _).mono ?_; rintro e w5 ⟨rfl, hb⟩; have HE := Lib.hid (show w5.heap[gv]? = some (.cells (words [a0, a1, a2, a3, a4, a5, a6, a7]) 50 (0, 0)) ∧ w5.heap[g]? = some (.cells (hashC st bk u z) t (0, 0)) ∧ w5.heap[w.heap.size]? = some (.cells (words SL) 59 (0, 0)) ∧ Below w.heap.size w w5 from ⟨row_call hb HD.out.1, row_call hb HD.out.2.1, row_call hb HD.out.2.2.1, below_call hb HD.out.2.2.2⟩); clear hb HD)
                | ((with_reducible refine guard_list ?_); refine held_st 50 _ _ rfl ?_)
              refine st_row rfl 50 _ _ rfl gv (words (stepL a0 a1 a2 a3 a4 a5 a6 a7 ((nth K64 k3 + nth SL k3) % 4294967296))) rfl rfl _ _ HE.out.1 8 tW8 rfl rfl (words_one _) ?_
              have HR3' := Lib.hid (show (w5.setRow gv (words (stepL a0 a1 a2 a3 a4 a5 a6 a7 ((nth K64 k3 + nth SL k3) % 4294967296)))).heap[gv]? = some (.cells (words (runL SL st (k3 + 1))) 50 (0, 0)) by rw [HRU.out]; exact row_put HE.out.1)
              have HR1' := Lib.hid (row_put_other (cs := (words (stepL a0 a1 a2 a3 a4 a5 a6 a7 ((nth K64 k3 + nth SL k3) % 4294967296)))) HE.out.2.1 (Nat.ne_of_lt HGV.out.1))
              have HR2' := Lib.hid (row_put_other (cs := (words (stepL a0 a1 a2 a3 a4 a5 a6 a7 ((nth K64 k3 + nth SL k3) % 4294967296)))) HE.out.2.2.1 (Nat.ne_of_lt HGV.out.2))
              have HB' := Lib.hid (below_setRow HE.out.2.2.2 (Nat.le_of_lt HGV.out.2) (words (stepL a0 a1 a2 a3 a4 a5 a6 a7 ((nth K64 k3 + nth SL k3) % 4294967296))))
              clear HE HRU
              go_wp2_with fail
              go_roundw
              case rel => exact ⟨k3 + 1, by omega, by go_num, HR1'.out, HR2'.out, HR3'.out, HB'.out⟩
              case measure => simp [intOf]; omega
            · obtain rfl : k3 = 64 := by omega
              clear hlt hk3
              obtain ⟨V, hV⟩ : ∃ V, V = runL SL st 64 := ⟨_, rfl⟩
              have HVL := Lib.hid (show V.length = 8 by rw [hV]; exact runL_len HS.out 64)
              rw [← hV] at hr3
              have HR3 := Lib.hid hr3
              have HVE := Lib.hid (show V = runL (schedL (wordsOf bk) 48) st 64 by rw [hV, HSLE.out])
              have HGB := Lib.hid (grown_of_below HB.out (some g))
              have HBW := Lib.hid HB.out.size
              clear hr3 hV HSLE HSL HR2 HB HTAB
              go_wp2_with fail
              go_loopw [119] (fun i wr => ∃ k4 : Nat, k4 ≤ 8 ∧ i = .int .i64 (k4 : Nat) ∧ wr.heap[g]? = some (.cells (hashC (addL st V k4) bk u z) t (0, 0)) ∧ wr.heap[gv]? = some (.cells (words V) 50 (0, 0)) ∧ w.grownBy wr (some g)) (fun i _ => 8 - (intOf i).toNat)
              case atStart => exact ⟨0, by omega, rfl, by rw [addL_zero]; exact HR1.out, HR3.out, HGB.out⟩
              case round =>
                clear HR1 HR3 HGB
                obtain ⟨k4, hk4, rfl, hr1, hr3, hb⟩ := hrel
                have HR1 := Lib.hid hr1
                have HR3 := Lib.hid hr3
                have HGB := Lib.hid hb
                clear hr1 hr3 hb
                by_cases hlt : k4 < 8
                · have HAL := Lib.hid (addL_len HS.out HVL.out (Nat.le_of_lt hlt))
                  have y1 := (row_cell HR1.out k4).trans (hash_st HAL.out hlt)
                  rw [addL_here HS.out HVL.out hlt] at y1
                  have y2 := (row_cell HR3.out k4).trans (words_get (by rw [HVL.out]; exact hlt))
                  have x3 := row_free HR1.out k4
                  have qk : 0 ≤ (k4 : Int) := by omega
                  have lk : (k4 : Int) < 8 := by omega
                  have HR1' := Lib.hid (show (wr.setCell ⟨g, k4, none⟩ (.int .u32 ((nth st k4 + nth V k4) % 4294967296))).heap[g]? = some (.cells (hashC (addL st V (k4 + 1)) bk u z) t (0, 0)) by
                    rw [heap_setCell_same _ _ _ _ _ _ HR1.out, ← addL_set HS.out HVL.out hlt, ← hash_set HAL.out hlt])
                  have HR3' := Lib.hid ((heap_setCell_other wr ⟨g, k4, none⟩ gv (.int .u32 ((nth st k4 + nth V k4) % 4294967296)) (Nat.ne_of_gt HGV.out.1)).trans HR3.out)
                  have HGB' := Lib.hid (grown_setCell (o := k4) (.int .u32 ((nth st k4 + nth V k4) % 4294967296)) HGB.out)
                  go_wp2_with fail
                  go_still_tail 13, (by kernel_rfl)
                  change wpList _ _ _ _ _ (World.drew _)
                  go_wp2_with fail
                  go_roundw
                  case rel =>
                    repeat apply Exists.intro
                    refine ⟨⟨k4 + 1, by omega, ?_, HR1'.out, HR3'.out, grown_drew HGB'.out⟩, rfl⟩
                    go_num
                  case measure => simp [intOf]; omega
                · obtain rfl : k4 = 8 := by omega
                  go_wp2_with fail
                  exact ⟨rfl, .tuple #[], by kernel_rfl, rfl, HGB.out, by rw [HVE.out] at HR1; exact HR1.out⟩
end Go.Proofs.YtemkpihfenokmaaDoor
