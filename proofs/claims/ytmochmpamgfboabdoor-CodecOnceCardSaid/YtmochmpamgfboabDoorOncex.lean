/- What is read has one form: plain facts for CodecOnce; CopyBytes of whatever memory holds; a cell's load taken first in a drawn region. The walk of CodecOnce. Condition: the program's variable errors.errorType is as its text lays it. -/
import Derived.Test.YtmochmpamgfboabDoorBackA
import Derived.Test.YtmochmpamgfboabDoorFrmx
import Derived.Deep.CutRange
import Derived.Deep.DeepCutAuto
namespace Go.Proofs.YtmochmpamgfboabDoor
open Go.RowKit
theorem le4_num {l : List Int} (hl : l.length = 4) (hb : Byt l) : le4 (num l) = l := by
  match l, hl with
  | [x0, x1, x2, x3], _ =>
    have h0 := hb x0 (by simp); have h1 := hb x1 (by simp); have h2 := hb x2 (by simp); have h3 := hb x3 (by simp)
    simp only [num, le4]
    refine List.cons_eq_cons.2 ⟨by omega, List.cons_eq_cons.2 ⟨by omega, List.cons_eq_cons.2 ⟨by omega, List.cons_eq_cons.2 ⟨by omega, rfl⟩⟩⟩⟩
theorem four_step (b : List Int) (k : Nat) : (b.drop (4 * k)).take 4 ++ b.drop (4 * (k + 1)) = b.drop (4 * k) := by
  rw [show 4 * (k + 1) = 4 * k + 4 by omega, ← List.drop_drop]
  exact List.take_append_drop 4 _
theorem conf_num {b : List Int} (h : b.length = 24) (hb : Byt b) (k : Nat) (hk : k < 6) : le4 (numAt b k % 4294967296) = (b.drop (4 * k)).take 4 := by
  have h1 := numAt_bound h hb k hk
  rw [show numAt b k % 4294967296 = numAt b k by omega]
  exact le4_num (numAt_len h k hk) ((hb.drop (4 * k)).take 4)
theorem conf_once {b : List Int} (hb : Byt b) : ∃ (d0 d1 d2 d3 d4 d5 e : Int), parsed b = .tuple #[.agg #[.int .i64 d0, .int .i64 d1, .int .i64 d2, .int .i64 d3, .int .i64 d4, .int .i64 d5], .int .i64 e] ∧ (e = 0 → good d0 d1 d2 d3 d4 d5 = true ∧ confL d0 d1 d2 d3 d4 d5 = b) := by
  by_cases h : b.length = 24
  · by_cases hg : good (numAt b 0) (numAt b 1) (numAt b 2) (numAt b 3) (numAt b 4) (numAt b 5) = true
    · refine ⟨_, _, _, _, _, _, _, by rw [parsed, if_pos h, if_pos hg], fun _ => ⟨hg, ?_⟩⟩
      rw [confL, conf_num h hb 0 (by decide), conf_num h hb 1 (by decide), conf_num h hb 2 (by decide), conf_num h hb 3 (by decide), conf_num h hb 4 (by decide), conf_num h hb 5 (by decide),
        show ([] : List Int) = b.drop (4 * (5 + 1)) from (List.drop_of_length_le (by omega)).symm, four_step b 5, four_step b 4, four_step b 3, four_step b 2, four_step b 1, four_step b 0]
      rfl
    · exact ⟨_, _, _, _, _, _, _, by rw [parsed, if_pos h, if_neg hg], fun h0 => by omega⟩
  · exact ⟨_, _, _, _, _, _, _, by rw [parsed, if_neg h], fun h0 => by omega⟩
theorem talk_once {g : Bool} {n1 : Int} (b : List Int) (hg : g = true) (h1 : 0 ≤ n1) : ∃ d m e, talkP g n1 b = (d, m, e) ∧ d.length = 16 ∧ (e = 0 → talkQ g n1 d m = (b, 0)) := by
  by_cases h : (b.length : Int) = 16 + n1
  · refine ⟨_, _, _, talkP_ok hg h, by rw [List.length_take]; omega, fun _ => ?_⟩
    rw [talkQ, if_pos hg, if_pos (by rw [List.length_drop]; omega), List.take_append_drop]
  · exact ⟨_, _, _, talkP_len hg h, rfl, fun h0 => by omega⟩
theorem reply_once {g : Bool} {n1 : Int} (b : List Int) (hg : g = true) (h1 : 0 ≤ n1) : ∃ y m e, replyP g n1 b = (y, m, e) ∧ (e = 0 → replyQ g n1 y m = (b, 0)) := by
  by_cases h : (b.length : Int) = 1 + n1
  · obtain ⟨x, t, rfl⟩ : ∃ x t, b = x :: t := by
      cases b with
      | nil => simp at h; omega
      | cons x t => exact ⟨x, t, rfl⟩
    have hl : (t.length : Int) = n1 := by rw [List.length_cons] at h; omega
    by_cases hx : x = 1
    · refine ⟨true, t, 0, by rw [replyP, if_pos hg, if_pos h, if_pos (show nth (x :: t) 0 = 1 from hx)]; rfl, fun _ => ?_⟩
      rw [replyQ, if_pos hg, if_pos hl, if_pos rfl, hx]
    · by_cases hz : nth (x :: t) 0 = 0 ∧ zeros ((x :: t).drop 1)
      · refine ⟨false, t, 0, by rw [replyP, if_pos hg, if_pos h, if_neg (show ¬ nth (x :: t) 0 = 1 from hx), if_pos hz]; rfl, fun _ => ?_⟩
        rw [replyQ, if_pos hg, if_pos hl, if_neg (by decide)]
        have h0 : x = 0 := hz.1
        have h2 : zeros t := hz.2
        subst h0
        congr 1
        rw [List.replicate_succ]
        congr 1
        refine List.ext_getElem (by simp) fun i hi hi2 => ?_
        have h3 := h2 i hi2
        simp only [nth, List.getD_eq_getElem?_getD, List.getElem?_eq_getElem hi2, Option.getD_some] at h3
        simp [h3]
      · exact ⟨_, _, _, by rw [replyP, if_pos hg, if_pos h, if_neg (show ¬ nth (x :: t) 0 = 1 from hx), if_neg hz], fun h0 => by omega⟩
  · exact ⟨_, _, _, by rw [replyP, if_pos hg, if_neg h], fun h0 => by omega⟩
theorem dial_once {g : Bool} {n2 : Int} (b : List Int) (hb : Byt b) (hg : g = true) : ∃ k m e, dialP g n2 b = (k, m, e) ∧ (e = 0 → dialQ g n2 k m = (b, 0)) := by
  by_cases h : b.length = 92
  · by_cases h2 : num (b.take 4) < n2
    · refine ⟨_, _, _, by rw [dialP, if_pos hg, if_pos h, if_pos h2], fun _ => ?_⟩
      rw [dialQ, if_pos hg, if_pos ⟨(num4 hb).1, h2⟩, if_pos (by rw [List.length_drop]; omega), le4_num (by rw [List.length_take]; omega) (hb.take 4), List.take_append_drop]
    · exact ⟨_, _, _, by rw [dialP, if_pos hg, if_pos h, if_neg h2], fun h0 => by omega⟩
  · exact ⟨_, _, _, by rw [dialP, if_pos hg, if_neg h], fun h0 => by omega⟩
theorem rows_flat (b : List Int) : ∀ k, (rowsOf b k).flatten ++ b.drop (8 + 88 * k) = b.drop 8
  | 0 => by simp [rowsOf]
  | k + 1 => by
    rw [rowsOf_succ, List.flatten_append, List.append_assoc, ← rows_flat b k]
    congr 1
    simp only [List.flatten_cons, List.flatten_nil, List.append_nil]
    rw [show 8 + 88 * (k + 1) = 8 + 88 * k + 88 by omega, ← List.drop_drop]
    exact List.take_append_drop 88 _
theorem rowsOf_len {b : List Int} {m : Nat} (h : b.length = 8 + 88 * m) : ∀ l ∈ rowsOf b m, l.length = 88 := fun l hl => by
  obtain ⟨i, hi, rfl⟩ := List.mem_map.1 hl
  have := List.mem_range.1 hi
  rw [rowAt, List.length_take, List.length_drop]
  omega
theorem frame_once (b : List Int) (hb : Byt b) : ∃ k ls e, frameP b = (k, ls, e) ∧ (e = 0 → ∀ vs : List Row1, vs.map (·.2.2) = ls → frameQ k vs = (b, 0)) := by
  by_cases h : fok b
  · obtain ⟨h8, hq1, hq2, hm, hl⟩ := id h
    have hm4 := num4 (hb.drop 4)
    obtain ⟨m, hmm⟩ : ∃ m : Nat, (m : Int) = num ((b.drop 4).take 4) := ⟨(num ((b.drop 4).take 4)).toNat, by omega⟩
    refine ⟨_, _, _, frameP_ok h rfl hmm, fun _ vs hvs => ?_⟩
    have hbl : b.length = 8 + 88 * m := by rw [← hmm] at hl; omega
    have hvl : vs.length = m := by
      have := congrArg List.length hvs
      simpa [rowsOf] using this
    have h88 : ∀ r ∈ vs, r.2.2.length = 88 := fun r hr => rowsOf_len hbl _ (by rw [← hvs]; exact List.mem_map.2 ⟨r, hr, rfl⟩)
    rw [frameQ, if_pos ⟨hq1, hq2⟩, if_pos (by rw [hvl]; omega), if_pos h88, hvl, flat, hvs, hmm, le4_num (by rw [List.length_take]; omega) (hb.take 4), le4_num (by rw [List.length_take, List.length_drop]; omega) ((hb.drop 4).take 4)]
    have h9 := rows_flat b m
    rw [List.drop_of_length_le (by omega), List.append_nil] at h9
    rw [h9]
    congr 1
    rw [show b.drop 8 = (b.drop 4).drop 4 by rw [List.drop_drop], List.take_append_drop, List.take_append_drop]
  · exact ⟨_, _, _, frameP_bad h, fun h0 => by omega⟩
theorem check_ev (n0 n1 n2 n3 n4 n5 : Int) (w : World) : Calls Tryd.prog 9 #[.agg #[.int .i64 n0, .int .i64 n1, .int .i64 n2, .int .i64 n3, .int .i64 n4, .int .i64 n5]] w (Gives (· = .int .i64 (if good n0 n1 n2 n3 n4 n5 = true then 0 else 200)) w) := by
  by_cases h : good n0 n1 n2 n3 n4 n5 = true
  · rw [if_pos h]; exact check_yes h w
  · rw [if_neg h]; exact check_no h w
theorem parseConfig_ev (p : Option Addr) (l : List Int) (n c : Nat) (w : World) (hn : l.length = n) (hb : Byt l) (h : BytesIn w p l) : Calls Tryd.prog 19 #[.slice p n c] w (Gives (· = parsed l) w) := by
  by_cases h24 : n = 24
  · subst h24
    exact parseConfig_24 p l c w hn hb h
  · exact parseConfig_short p l n c w hn h24
theorem yieldsIf_cell {P : Program} {ops : Array Oper} {S : World → Prop} {op : Oper} {a : Act} (hw : Region.wanted op (yielded ops a.tmps) = true) (ty : TypeId) (x : Operand) (ho : op.op = .load ty x)
    (ad : Addr) (hx : a.eval x = .pointer (some ad)) (v : Value) (hS : ∀ w, S w → w.cell? ad = some v) (hT : CellT P ty) : YieldsIf P ops S op v a := by
  refine .inl ⟨hw, fun w hw' => ?_⟩
  unfold execOp; rw [ho]
  show ((do let z ← Instr.loadAt ty (a.eval x); pure (Next.value z)) : Sem Next).run P w = _
  rw [hx, Sem.run_bind, run_load_cell hT (hS w hw')]
  rfl
theorem eq_own2 {p q : Option Addr} {n c c' : Nat} {w : World} {l : List Int} (hn : l.length = n) (h1 : BytesIn w p l) (h2 : BytesIn w q l) (hm : n ≤ 140737488355328) : Calls Tryd.prog 24 #[.slice p n c, .slice q n c'] w (Gives (· = .bool true) w) :=
  (eqBytes_any p q l l n n c c' w hn hn h1 h2 (by omega)).mono fun _ _ ⟨r, e1, e2, e3⟩ => ⟨r, e1, e2.trans (by rw [decide_eq_true rfl]), e3⟩
set_option maxHeartbeats 4000000 in
set_option maxRecDepth 100000 in
theorem copyW_any (p : Option Addr) (l : List Int) (n c : Nat) (w : World) (hn : l.length = n) (h : BytesIn w p l) (hm : n ≤ 140737488355328) :
    Calls Tryd.prog 15 #[.slice p n c] w (NewV w l) := by
  have hmk : ∀ u : World, (Instr.makeSlice 28 (.int .i64 0) (.int .i64 (n : Int))).run Tryd.prog u = .ok (.slice (some ⟨u.heap.size, 0, none⟩) 0 n) (u.alloc (.cells (vals (List.replicate n 0)) 5)) := fun u => run_make_bts u 0 n (Nat.zero_le _) (by omega)
  have H := Lib.hid h
  have HN := Lib.hid hn
  have HB0 := Lib.hid ((Below.refl w.heap.size w).alloc (Nat.le_refl _) (.cells (vals (List.replicate n 0)) 5))
  have HBT0 := Lib.hid (show Bts (w.alloc (.cells (vals (List.replicate n 0)) 5)) w.heap.size (.slice (some ⟨w.heap.size, 0, none⟩) 0 n) [] from Bts.row (l := []) (heap_alloc_new w _) (Nat.le_refl _) (Nat.zero_le _) (by simp only [maxLen]; omega) (by simp [vals_size]) rfl)
  clear h hn
  go_enter Tryd.func15, Tryd.ntmps15
  go_wp2
  go_loopw [3, 4] (fun v i wr => ∃ k, k ≤ n ∧ i = .int .i64 (k : Nat) ∧ Bts wr w.heap.size v (l.take k) ∧ Below w.heap.size w wr) (fun _ i _ => n - (intOf i).toNat)
  case atStart => exact ⟨0, by omega, rfl, HBT0.out, HB0.out⟩
  case round =>
    clear HB0 HBT0
    obtain ⟨k, hk, rfl, hbt, hb⟩ := hrel
    have HB := Lib.hid hb
    have HBT := Lib.hid hbt
    clear hb hbt
    by_cases hlt : k < n
    · obtain ⟨a2, rfl, _, x1⟩ := H.out.under HB.out (Nat.le_refl _) k (by rw [HN.out]; exact hlt)
      have HT := Lib.hid (take_bytes l k (by rw [HN.out]; exact hlt))
      have HLE := Lib.hid (show (l.take k).length + 1 ≤ 140737488355328 by
        rw [List.length_take]
        omega)
      generalize nth l k = x at x1 HT
      go_wp2_with (at_builtin; (refine held_append _ _ rfl ?_))
      refine wpList_app1 _ _ rfl rfl rfl rfl HB.out HBT.out HLE.out fun v' w' h1 h2 _ _ => ?_
      rw [HT.out] at h1
      have H1 := Lib.hid h1
      have H2 := Lib.hid h2
      clear h1 h2
      go_wp2
      go_roundw
      case rel => exact ⟨k + 1, by omega, by go_num, H1.out, H2.out⟩
      case measure => simp [intOf]; omega
    · obtain rfl : k = n := by omega
      have HBT1 := Lib.hid (show Bts wr w.heap.size u3 l by have := HBT.out; rwa [List.take_of_length_le (Nat.le_of_eq HN.out)] at this)
      go_wp2
      exact ⟨rfl, u3, by kernel_rfl, HB.out, _, rfl, HBT1.out⟩
set_option maxHeartbeats 16000000 in
set_option maxRecDepth 100000 in
theorem codecOnce_any (n0 n1 n2 n3 n4 n5 : Int) (x0 x1 x2 x3 x4 x5 x6 x7 x8 x9 x10 x11 x12 x13 x14 x15 : Int) (y : Bool) (pm qb : Option Addr) (B : List Int) (nm cm nb cb : Nat) (w : World) (hh : Handle w)
    (lB : B.length = nb) (bB : Byt B) (iB : BytesIn w qb B) (zB : nb ≤ 140737488355328) (_cB : nb ≤ cb) :
    Calls Tryd.prog 6 #[.agg #[.int .i64 n0, .int .i64 n1, .int .i64 n2, .int .i64 n3, .int .i64 n4, .int .i64 n5, .int .u8 x0, .int .u8 x1, .int .u8 x2, .int .u8 x3, .int .u8 x4, .int .u8 x5, .int .u8 x6, .int .u8 x7, .int .u8 x8, .int .u8 x9, .int .u8 x10, .int .u8 x11, .int .u8 x12, .int .u8 x13, .int .u8 x14, .int .u8 x15, .bool y, .slice pm nm cm, .slice qb nb cb]] w (fun e w' => e = .returned (.bool true) ∧ Below w.heap.size w w') := by
  have HH := Lib.hid hh
  have HLB := Lib.hid lB
  have HZB := Lib.hid zB
  have HBB := Lib.hid bB
  have HCP := Lib.hid (show ∀ w', Below w.heap.size w w' → Calls Tryd.prog 15 #[.slice qb nb cb] w' (NewV w' B) from fun w' h => copyW_any qb B nb cb w' lB (iB.under h (Nat.le_refl _)) zB)
  have HEQ := Lib.hid (show ∀ w' p c, BytesIn w' p B → Below w.heap.size w w' → Calls Tryd.prog 24 #[.slice p nb c, .slice qb nb cb] w' (Gives (· = .bool true) w') from fun w' p c h hb => eq_own2 lB h (iB.under hb (Nat.le_refl _)) zB)
  obtain ⟨d0, d1, d2, d3, d4, d5, e1, hpc, hpc2⟩ := conf_once bB
  have HPC := Lib.hid (show ∀ w' p c, BytesIn w' p B → Calls Tryd.prog 19 #[.slice p nb c] w' (Gives (· = .tuple #[.agg #[.int .i64 d0, .int .i64 d1, .int .i64 d2, .int .i64 d3, .int .i64 d4, .int .i64 d5], .int .i64 e1]) w') from fun w' p c h => by
    have h1 := parseConfig_ev p B nb c w' lB bB h
    rwa [hpc] at h1)
  have HPUT := Lib.hid (show e1 = 0 → ∀ w', Calls Tryd.prog 18 #[.agg #[.int .i64 d0, .int .i64 d1, .int .i64 d2, .int .i64 d3, .int .i64 d4, .int .i64 d5]] w' (LaidV w' B) from fun he w' => by
    have h1 := putConfig_yes (hpc2 he).1 w'
    rwa [(hpc2 he).2] at h1)
  obtain ⟨e0, he0⟩ : ∃ e0 : Int, e0 = (if good n0 n1 n2 n3 n4 n5 = true then 0 else 200) := ⟨_, rfl⟩
  have HE0 := Lib.hid he0
  have HCK := Lib.hid (show ∀ w', Calls Tryd.prog 9 #[.agg #[.int .i64 n0, .int .i64 n1, .int .i64 n2, .int .i64 n3, .int .i64 n4, .int .i64 n5]] w' (Gives (· = .int .i64 e0) w') from fun w' => by rw [HE0.out]; exact check_ev n0 n1 n2 n3 n4 n5 w')
  clear hh lB bB iB zB hpc hpc2 he0
  have HROW := Lib.hid (heap_alloc_new w (.cells (#[.int .i64 n0, .int .i64 n1, .int .i64 n2, .int .i64 n3, .int .i64 n4, .int .i64 n5, .int .u8 x0, .int .u8 x1, .int .u8 x2, .int .u8 x3, .int .u8 x4, .int .u8 x5, .int .u8 x6, .int .u8 x7, .int .u8 x8, .int .u8 x9, .int .u8 x10, .int .u8 x11, .int .u8 x12, .int .u8 x13, .int .u8 x14, .int .u8 x15, .bool y, .slice pm nm cm, .slice qb nb cb]) 44))
  have HB := Lib.hid ((Below.refl w.heap.size w).alloc (Nat.le_refl _) (.cells (#[.int .i64 n0, .int .i64 n1, .int .i64 n2, .int .i64 n3, .int .i64 n4, .int .i64 n5, .int .u8 x0, .int .u8 x1, .int .u8 x2, .int .u8 x3, .int .u8 x4, .int .u8 x5, .int .u8 x6, .int .u8 x7, .int .u8 x8, .int .u8 x9, .int .u8 x10, .int .u8 x11, .int .u8 x12, .int .u8 x13, .int .u8 x14, .int .u8 x15, .bool y, .slice pm nm cm, .slice qb nb cb]) 44))
  have hT : True := trivial
  have hT5 : True := trivial
  have HDC := Lib.hid (show ∀ (w' : World) (t : TypeId), w'.heap[w.heap.size]? = some (.cells (#[.int .i64 n0, .int .i64 n1, .int .i64 n2, .int .i64 n3, .int .i64 n4, .int .i64 n5, .int .u8 x0, .int .u8 x1, .int .u8 x2, .int .u8 x3, .int .u8 x4, .int .u8 x5, .int .u8 x6, .int .u8 x7, .int .u8 x8, .int .u8 x9, .int .u8 x10, .int .u8 x11, .int .u8 x12, .int .u8 x13, .int .u8 x14, .int .u8 x15, .bool y, .slice pm nm cm, .slice qb nb cb]) t (0, 0)) → CellsAt w' ⟨w.heap.size, 0, none⟩ #[.int .i64 n0, .int .i64 n1, .int .i64 n2, .int .i64 n3, .int .i64 n4, .int .i64 n5] from fun w' t h => row_part h (fun j v hv => by
    rcases (show j = 0 ∨ j = 1 ∨ j = 2 ∨ j = 3 ∨ j = 4 ∨ j = 5 by have := (Array.getElem?_eq_some_iff.1 hv).1; simp at this; omega) with rfl | rfl | rfl | rfl | rfl | rfl <;> exact hv))
  go_enter Tryd.func6, Tryd.ntmps6
  go_upto_if 27 with (first
    | (go_at_call 8; refine (awake_ev _).mono ?_; rintro e w1 ⟨_, rfl, rfl, hb⟩; replace HROW := Lib.hid (row_call hb HROW.out); replace HB := Lib.hid (below_call hb HB.out); clear hb; clear hT; have hT := conf_cells HROW.out (Below.refl _ _); have HLT := Lib.hid (show w.heap.size < w1.heap.size from (Array.getElem?_eq_some_iff.1 HROW.out).1))
    | ((with_reducible refine guard_list ?_); refine held_load 23 _ rfl ?_; refine wpl_ld_at rfl _ _ rfl ⟨w.heap.size, 0, none⟩ rfl (#[.int .i64 n0, .int .i64 n1, .int .i64 n2, .int .i64 n3, .int .i64 n4, .int .i64 n5]) 6 tConf rfl (HDC.out _ _ HROW.out) ?_)
    | ((with_reducible refine guard_list ?_); refine held_st 23 _ _ rfl ?_; refine st_row rfl _ _ _ rfl _ (#[.int .i64 n0, .int .i64 n1, .int .i64 n2, .int .i64 n3, .int .i64 n4, .int .i64 n5]) rfl rfl _ _ (heap_alloc_new w1 _) 6 tConf rfl rfl (by simp [Value.oneCell']) ?_; rw [World.setRow_alloc_new]; have hb := (Below.refl w1.heap.size w1).alloc (Nat.le_refl _) (.cells (#[.int .i64 n0, .int .i64 n1, .int .i64 n2, .int .i64 n3, .int .i64 n4, .int .i64 n5]) 23); have HC5 := Lib.hid (heap_alloc_new w1 (.cells (#[.int .i64 n0, .int .i64 n1, .int .i64 n2, .int .i64 n3, .int .i64 n4, .int .i64 n5]) 23)); replace HROW := Lib.hid (row_call hb HROW.out); replace HB := Lib.hid (below_call hb HB.out); clear hb; clear hT; have hT := conf_cells HROW.out (Below.refl _ _); clear hT5; have hT5 := conf_cells HC5.out (Below.refl _ _))
    | ((with_reducible refine guard_list ?_); refine held_load 23 _ rfl ?_; refine wpl_ld_at rfl _ _ rfl (⟨w1.heap.size, 0, none⟩) rfl (#[.int .i64 n0, .int .i64 n1, .int .i64 n2, .int .i64 n3, .int .i64 n4, .int .i64 n5]) 6 tConf rfl (row_part (o := 0) HC5.out (fun j v hv => by rwa [Nat.zero_add])) ?_)
    | (go_at_call 9; refine (HCK.out _).mono ?_; rintro e w2 ⟨_, rfl, rfl, hb⟩; replace HROW := Lib.hid (row_call hb HROW.out); replace HC5 := Lib.hid (row_call hb HC5.out); replace HB := Lib.hid (below_call hb HB.out); clear hb; clear hT; have hT := conf_cells HROW.out (Below.refl _ _); clear hT5; have hT5 := conf_cells HC5.out (Below.refl _ _)))
  go_cut [] (fun wc => ∃ m0 m1 m2 m3 m4 m5 : Int, good m0 m1 m2 m3 m4 m5 = true ∧ wc.heap[w1.heap.size]? = some (.cells (#[.int .i64 m0, .int .i64 m1, .int .i64 m2, .int .i64 m3, .int .i64 m4, .int .i64 m5]) 23 (0, 0)) ∧ wc.heap[w.heap.size]? = some (.cells (#[.int .i64 n0, .int .i64 n1, .int .i64 n2, .int .i64 n3, .int .i64 n4, .int .i64 n5, .int .u8 x0, .int .u8 x1, .int .u8 x2, .int .u8 x3, .int .u8 x4, .int .u8 x5, .int .u8 x6, .int .u8 x7, .int .u8 x8, .int .u8 x9, .int .u8 x10, .int .u8 x11, .int .u8 x12, .int .u8 x13, .int .u8 x14, .int .u8 x15, .bool y, .slice pm nm cm, .slice qb nb cb]) 44 (0, 0)) ∧ Below w.heap.size w wc)
  case first =>
    by_cases hg : good n0 n1 n2 n3 n4 n5 = true
    · have hb0 : (e0 != 0) = false := by rw [HE0.out, if_pos hg]; rfl
      go_wp2_with fail
      go_meet
      case rel => exact ⟨n0, n1, n2, n3, n4, n5, hg, HC5.out, HROW.out, HB.out⟩
    · have hb0 : (e0 != 0) = true := by rw [HE0.out, if_neg hg]; rfl
      go_wp2_with first
        | (go_at_call 7; refine (small_ev _).mono ?_; rintro e w3 ⟨_, rfl, rfl, hb⟩; replace HROW := Lib.hid (row_call hb HROW.out); replace HC5 := Lib.hid (row_call hb HC5.out); replace HB := Lib.hid (below_call hb HB.out); clear hb; clear hT; have hT := conf_cells HROW.out (Below.refl _ _); clear hT5; have hT5 := conf_cells HC5.out (Below.refl _ _))
        | ((with_reducible refine guard_list ?_); refine held_st 23 _ _ rfl ?_; refine st_row rfl _ _ _ rfl _ (#[.int .i64 4, .int .i64 32, .int .i64 3, .int .i64 114, .int .i64 2, .int .i64 1]) rfl rfl _ _ HC5.out 6 tConf rfl rfl (by simp [Value.oneCell']) ?_; have HC6 := Lib.hid (row_put (cs' := #[.int .i64 4, .int .i64 32, .int .i64 3, .int .i64 114, .int .i64 2, .int .i64 1]) HC5.out))
      go_meet
      case rel => exact ⟨4, 32, 3, 114, 2, 1, by decide, HC6.out, row_put_other HROW.out (Nat.ne_of_lt HLT.out), below_setRow HB.out (Nat.le_of_lt HLT.out) _⟩
  case rest =>
    obtain ⟨m0, m1, m2, m3, m4, m5, hgm, hcut⟩ := hcut
    have hm1 : 0 ≤ m1 := by have := good_msg hgm; omega
    obtain ⟨dT, mT, eT, hpt, hdl, htq⟩ := talk_once B hgm hm1
    obtain ⟨yR, mR, eR, hpr, hrq⟩ := reply_once B hgm hm1
    obtain ⟨kD, mD, eD, hpd, hdq⟩ := dial_once (n2 := m2) B HBB.out hgm
    obtain ⟨kF, lF, eF, hpf, hfq⟩ := frame_once B HBB.out
    have HDL := Lib.hid (show (vals dT).size = 16 by rw [vals_size]; exact hdl)
    have HPT := Lib.hid (show ∀ w' p c, BytesIn w' p B → nb ≤ c → Calls Tryd.prog 23 #[.agg #[.int .i64 m0, .int .i64 m1, .int .i64 m2, .int .i64 m3, .int .i64 m4, .int .i64 m5], .slice p nb c] w' (AnsD w' dT mT eT) from fun w' p c h hc => by
      have h1 := parseTalk_any m0 m1 m2 m3 m4 m5 p nb c B w' HLB.out h hc
      rwa [hpt] at h1)
    have HTQ := Lib.hid (show eT = 0 → ∀ w' p c, BytesIn w' p mT → (p = none → c = 0) → Calls Tryd.prog 22 #[.agg #[.int .i64 m0, .int .i64 m1, .int .i64 m2, .int .i64 m3, .int .i64 m4, .int .i64 m5], .agg (vals dT), .slice p mT.length c] w' (Ans w' B 0) from fun he w' p c h hp => by
      have h1 := talkRequest_any m0 m1 m2 m3 m4 m5 dT hdl p mT.length c mT w' rfl h hp
      rwa [htq he] at h1)
    have HPR := Lib.hid (show ∀ w' p c, BytesIn w' p B → nb ≤ c → Calls Tryd.prog 26 #[.agg #[.int .i64 m0, .int .i64 m1, .int .i64 m2, .int .i64 m3, .int .i64 m4, .int .i64 m5], .slice p nb c] w' (AnsB w' yR mR eR) from fun w' p c h hc => by
      have h1 := parseReply_any m0 m1 m2 m3 m4 m5 p nb c B w' HLB.out HBB.out h hc
      rwa [hpr] at h1)
    have HRQ := Lib.hid (show eR = 0 → ∀ w' p c, BytesIn w' p mR → (p = none → c = 0) → Calls Tryd.prog 25 #[.agg #[.int .i64 m0, .int .i64 m1, .int .i64 m2, .int .i64 m3, .int .i64 m4, .int .i64 m5], .bool yR, .slice p mR.length c] w' (Ans w' B 0) from fun he w' p c h hp => by
      have h1 := talkReply_any m0 m1 m2 m3 m4 m5 yR p mR.length c mR w' rfl h hp
      rwa [hrq he] at h1)
    have HPD := Lib.hid (show ∀ w' p c, BytesIn w' p B → nb ≤ c → Calls Tryd.prog 28 #[.agg #[.int .i64 m0, .int .i64 m1, .int .i64 m2, .int .i64 m3, .int .i64 m4, .int .i64 m5], .slice p nb c] w' (AnsN w' kD mD eD) from fun w' p c h _ => by
      have h1 := parseDial_any m0 m1 m2 m3 m4 m5 p nb c B w' HLB.out HBB.out h
      rwa [hpd] at h1)
    have HDQ := Lib.hid (show eD = 0 → ∀ w' p c, BytesIn w' p mD → (p = none → c = 0) → Below w.heap.size w w' → Calls Tryd.prog 27 #[.agg #[.int .i64 m0, .int .i64 m1, .int .i64 m2, .int .i64 m3, .int .i64 m4, .int .i64 m5], .int .i64 kD, .slice p mD.length c] w' (Ans w' B 0) from fun he w' p c h hp hb => by
      have h1 := dialRequest_any m0 m1 m2 m3 m4 m5 kD p mD.length c mD w' (HH.out.keep hb) rfl h hp
      rwa [hdq he] at h1)
    have HPF := Lib.hid (show ∀ w' p c, BytesIn w' p B → (p = none → c = 0) → Calls Tryd.prog 14 #[.slice p nb c] w' (AnsR w' kF lF eF) from fun w' p c h hp => by
      have h1 := parseFrame_any p nb c B w' HLB.out HBB.out h hp HZB.out
      rwa [hpf] at h1)
    have HFQ := Lib.hid (show eF = 0 → ∀ w' p c (vs : List Row1), vs.map (·.2.2) = lF → RowsIn w' p vs → Below w.heap.size w w' → Calls Tryd.prog 12 #[.int .i64 kF, .slice p vs.length c] w' (Ans w' B 0) from fun he w' p c vs hv h hb => by
      have h1 := frame_any kF p vs.length c vs w' (HH.out.keep hb) rfl h
      rwa [hfq he vs hv] at h1)
    clear hgm hm1 hpt hdl htq hpr hrq hpd hdq hpf hfq HE0 HCK HDC
    clear HROW HC5 HB hT hT5
    obtain ⟨hc5, hrow, hbb⟩ := hcut
    have HC5 := Lib.hid hc5
    have HROW := Lib.hid hrow
    have HB := Lib.hid hbb
    clear hc5 hrow hbb
    have hT := conf_cells HROW.out (Below.refl _ _)
    have hT5 := conf_cells HC5.out (Below.refl _ _)
    go_upto_if 37 with (first
      | (go_at_call 15; refine (HCP.out _ HB.out).mono ?_; rintro e w2 ⟨hb, v2, rfl, hv2⟩; obtain ⟨p2, c2, rfl, hi2, hp2, _, hl2, _⟩ := hv2.open; rw [HLB.out]; rw [HLB.out] at hl2; have BI2 := Lib.hid hi2; have HP2 := Lib.hid hp2; have HCP2 := Lib.hid hl2; clear hi2 hp2 hl2 hv2; replace HROW := Lib.hid (row_call hb HROW.out); replace HC5 := Lib.hid (row_call hb HC5.out); replace HB := Lib.hid (below_call hb HB.out); clear hb; clear hT; have hT := conf_cells HROW.out (Below.refl _ _); clear hT5; have hT5 := conf_cells HC5.out (Below.refl _ _))
      | (go_at_call 19; refine (HPC.out _ p2 c2 BI2.out).mono ?_; rintro e w3 ⟨_, rfl, rfl, hb⟩; replace HROW := Lib.hid (row_call hb HROW.out); replace HC5 := Lib.hid (row_call hb HC5.out); replace HB := Lib.hid (below_call hb HB.out); clear hb; clear hT; have hT := conf_cells HROW.out (Below.refl _ _); clear hT5; have hT5 := conf_cells HC5.out (Below.refl _ _))
      | ((with_reducible refine guard_list ?_); refine held_st 23 _ _ rfl ?_; refine st_row rfl _ _ _ rfl _ (#[.int .i64 d0, .int .i64 d1, .int .i64 d2, .int .i64 d3, .int .i64 d4, .int .i64 d5]) rfl rfl _ _ (heap_alloc_new w3 _) 6 tConf rfl rfl (by simp [Value.oneCell']) ?_; rw [World.setRow_alloc_new]; have hb := (Below.refl w3.heap.size w3).alloc (Nat.le_refl _) (.cells (#[.int .i64 d0, .int .i64 d1, .int .i64 d2, .int .i64 d3, .int .i64 d4, .int .i64 d5]) 23); have HC4 := Lib.hid (heap_alloc_new w3 (.cells (#[.int .i64 d0, .int .i64 d1, .int .i64 d2, .int .i64 d3, .int .i64 d4, .int .i64 d5]) 23)); replace HROW := Lib.hid (row_call hb HROW.out); replace HC5 := Lib.hid (row_call hb HC5.out); replace HB := Lib.hid (below_call hb HB.out); clear hb; clear hT; have hT := conf_cells HROW.out (Below.refl _ _); clear hT5; have hT5 := conf_cells HC5.out (Below.refl _ _)))
    go_cut [] (fun wc => wc.heap[w1.heap.size]? = some (.cells (#[.int .i64 m0, .int .i64 m1, .int .i64 m2, .int .i64 m3, .int .i64 m4, .int .i64 m5]) 23 (0, 0)) ∧ wc.heap[w.heap.size]? = some (.cells (#[.int .i64 n0, .int .i64 n1, .int .i64 n2, .int .i64 n3, .int .i64 n4, .int .i64 n5, .int .u8 x0, .int .u8 x1, .int .u8 x2, .int .u8 x3, .int .u8 x4, .int .u8 x5, .int .u8 x6, .int .u8 x7, .int .u8 x8, .int .u8 x9, .int .u8 x10, .int .u8 x11, .int .u8 x12, .int .u8 x13, .int .u8 x14, .int .u8 x15, .bool y, .slice pm nm cm, .slice qb nb cb]) 44 (0, 0)) ∧ Below w.heap.size w wc)
    case first =>
      by_cases he : e1 = 0
      · have HE := Lib.hid he
        have hb0 : (e1 == 0) = true := by rw [he]; rfl
        clear he
        go_wp2_with first
          | ((with_reducible refine guard_list ?_); refine held_load 23 _ rfl ?_; refine wpl_ld_at rfl _ _ rfl (⟨w3.heap.size, 0, none⟩) rfl (#[.int .i64 d0, .int .i64 d1, .int .i64 d2, .int .i64 d3, .int .i64 d4, .int .i64 d5]) 6 tConf rfl (row_part (o := 0) HC4.out (fun j v hv => by rwa [Nat.zero_add])) ?_)
          | (go_at_call 18; refine (HPUT.out HE.out _).mono ?_; rintro e w4 ⟨hb, v4, rfl, hv4⟩; obtain ⟨p4, c4, rfl, hi4, hp4, _, hl4, _⟩ := hv4.open; rw [HLB.out]; rw [HLB.out] at hl4; have BI4 := Lib.hid hi4; have HP4 := Lib.hid hp4; have HCP4 := Lib.hid hl4; clear hi4 hp4 hl4 hv4; replace HROW := Lib.hid (row_call hb HROW.out); replace HC5 := Lib.hid (row_call hb HC5.out); replace HB := Lib.hid (below_call hb HB.out); clear hb; clear hT; have hT := conf_cells HROW.out (Below.refl _ _); clear hT5; have hT5 := conf_cells HC5.out (Below.refl _ _))
          | (go_at_call 24; refine (HEQ.out _ p4 c4 BI4.out HB.out).mono ?_; rintro e w5 ⟨_, rfl, rfl, hb⟩; replace HROW := Lib.hid (row_call hb HROW.out); replace HC5 := Lib.hid (row_call hb HC5.out); replace HB := Lib.hid (below_call hb HB.out); clear hb; clear hT; have hT := conf_cells HROW.out (Below.refl _ _); clear hT5; have hT5 := conf_cells HC5.out (Below.refl _ _))
        go_meet
        case rel => exact ⟨HC5.out, HROW.out, HB.out⟩
      · have hb0 : (e1 == 0) = false := by rw [beq_eq_false_iff_ne]; exact he
        clear he
        go_wp2_with fail
        go_meet
        case rel => exact ⟨HC5.out, HROW.out, HB.out⟩
    case rest =>
      clear HROW HC5 HB hT hT5
      obtain ⟨hc5, hrow, hbb⟩ := hcut
      have HC5 := Lib.hid hc5
      have HROW := Lib.hid hrow
      have HB := Lib.hid hbb
      clear hc5 hrow hbb
      have hT := conf_cells HROW.out (Below.refl _ _)
      have hT5 := conf_cells HC5.out (Below.refl _ _)
      go_upto_region 11 with fail
      go_cut [8, 9, 5] (fun v8 v9 v5 wc => ∃ g8 p c, v8 = .pointer (some ⟨g8, 0, none⟩) ∧ wc.heap[g8]? = some (.cells (vals dT) 42 (0, 0)) ∧ v9 = .slice p mT.length c ∧ BytesIn wc p mT ∧ (p = none → c = 0) ∧ v5 = .int .i64 eT ∧ wc.heap[w1.heap.size]? = some (.cells (#[.int .i64 m0, .int .i64 m1, .int .i64 m2, .int .i64 m3, .int .i64 m4, .int .i64 m5]) 23 (0, 0)) ∧ wc.heap[w.heap.size]? = some (.cells (#[.int .i64 n0, .int .i64 n1, .int .i64 n2, .int .i64 n3, .int .i64 n4, .int .i64 n5, .int .u8 x0, .int .u8 x1, .int .u8 x2, .int .u8 x3, .int .u8 x4, .int .u8 x5, .int .u8 x6, .int .u8 x7, .int .u8 x8, .int .u8 x9, .int .u8 x10, .int .u8 x11, .int .u8 x12, .int .u8 x13, .int .u8 x14, .int .u8 x15, .bool y, .slice pm nm cm, .slice qb nb cb]) 44 (0, 0)) ∧ Below w.heap.size w wc)
      case first =>
        refine wp_region_held_drew (S := (fun w' : World => w'.heap[w1.heap.size]? = some (.cells (#[.int .i64 m0, .int .i64 m1, .int .i64 m2, .int .i64 m3, .int .i64 m4, .int .i64 m5]) 23 (0, 0)) ∧ w'.heap[w.heap.size]? = some (.cells (#[.int .i64 n0, .int .i64 n1, .int .i64 n2, .int .i64 n3, .int .i64 n4, .int .i64 n5, .int .u8 x0, .int .u8 x1, .int .u8 x2, .int .u8 x3, .int .u8 x4, .int .u8 x5, .int .u8 x6, .int .u8 x7, .int .u8 x8, .int .u8 x9, .int .u8 x10, .int .u8 x11, .int .u8 x12, .int .u8 x13, .int .u8 x14, .int .u8 x15, .bool y, .slice pm nm cm, .slice qb nb cb]) 44 (0, 0)) ∧ Below w.heap.size w w')) (by kernel_rfl) ⟨HC5.out, HROW.out, HB.out.drew⟩ (fun hS => ?_)
        refine wpAnyH_take (i := 0) (oi := ⟨some 53, _, _, _, _, _⟩) rfl (by kernel_rfl) (by kernel_rfl) (by kernel_rfl) (fun _ _ _ h => h) (yieldsIf_row (by rfl) _ _ rfl _ (by rfl) _ _ (fun _ h => h.1) 6 tConf (by rfl)) hS ?_
        try simp only [Act.put]
        refine wpAnyH_take (i := 1) (oi := ⟨some 54, _, _, _, _, _⟩) (v := ?_) rfl (by kernel_rfl) (by kernel_rfl) (by kernel_rfl) (fun _ _ _ h => h) (Or.inl ⟨by rfl, ?_⟩) hS ?_
        rotate_left
        · intro w hSw; go_simp; first | done | with_reducible rfl
        try simp only [Act.put]
        refine wpAnyH_take (i := 2) (oi := ⟨some 55, _, _, _, _, _⟩) rfl (by kernel_rfl) (by kernel_rfl) (by kernel_rfl) (fun _ _ _ h => h) (yieldsIf_cell (by rfl) _ _ rfl (⟨w.heap.size, 24, none⟩) (by rfl) (.slice qb nb cb) (fun _ h => (row_cell h.2.1 24).trans (by rfl)) tSl) hS ?_
        try simp only [Act.put]
        refine wpAnyH_ready (rs := [3, 9]) (by kernel_rfl) (by simp) (AllReadyH.cons (o := ⟨some 56, _, _, _, _, _⟩) rfl (fun K hK => ?_) (AllReadyH.cons (o := ⟨some 8, _, _, _, _, _⟩) rfl (fun K hK => ?_) AllReadyH.nil))
        · go_simp
          refine (HCP.out _ hS.2.2).mono ?_
          rintro e w6 ⟨hb, v6, rfl, hv6⟩
          obtain ⟨p6, c6, rfl, hi6, hp6, _, hl6, _⟩ := hv6.open
          rw [HLB.out] at hl6 ⊢
          refine hK.out _ _ ⟨row_call hb hS.1, row_call hb hS.2.1, below_call hb hS.2.2⟩ (fun hS => ?_)
          clear hK K
          try simp only [Act.put]
          refine wpAnyH_ready (rs := [4, 9]) (by kernel_rfl) (by simp) (AllReadyH.cons (o := ⟨some 57, _, _, _, _, _⟩) rfl (fun K hK => ?_) (AllReadyH.cons (o := ⟨some 8, _, _, _, _, _⟩) rfl (fun K hK => ?_) AllReadyH.nil))
          · go_simp
            refine (HPT.out _ p6 c6 hi6 hl6).mono ?_
            rintro e w7 ⟨hb, v7, rfl, hv7⟩
            obtain ⟨p7, c7, rfl, _, hp7, _, _, _⟩ := hv7.open
            refine hK.out _ _ ⟨row_call hb hS.1, row_call hb hS.2.1, below_call hb hS.2.2⟩ (fun hS => ?_)
            clear hK K
            try simp only [Act.put]
            refine wpAnyH_take (i := 5) (oi := ⟨some 52, _, _, _, _, _⟩) (v := ?_) rfl (by kernel_rfl) (by kernel_rfl) (by kernel_rfl) (fun _ _ _ h => h) (Or.inl ⟨by rfl, ?_⟩) hS ?_
            rotate_left
            · intro w hSw; go_simp; first | done | with_reducible rfl
            try simp only [Act.put]
            refine wpAnyH_take (i := 6) (oi := ⟨some 58, _, _, _, _, _⟩) (v := ?_) rfl (by kernel_rfl) (by kernel_rfl) (by kernel_rfl) (fun _ _ _ h => h) (Or.inl ⟨by rfl, ?_⟩) hS ?_
            rotate_left
            · intro w hSw; go_simp; first | done | with_reducible rfl
            try simp only [Act.put]
            refine wpAnyH_take (i := 7) (oi := ⟨some 59, _, _, _, _, _⟩) (v := ?_) rfl (by kernel_rfl) (by kernel_rfl) (by kernel_rfl) (fun _ _ _ h => h) (Or.inl ⟨by rfl, ?_⟩) hS ?_
            rotate_left
            · intro w hSw; go_simp; first | done | with_reducible rfl
            try simp only [Act.put]
            refine wpAnyH_take (i := 8) (oi := ⟨some 60, _, _, _, _, _⟩) (v := ?_) rfl (by kernel_rfl) (by kernel_rfl) (by kernel_rfl) (fun _ _ _ h => h) (Or.inl ⟨by rfl, ?_⟩) hS ?_
            rotate_left
            · intro w hSw; go_simp; first | done | with_reducible rfl
            try simp only [Act.put]
            refine wpAnyH_ready (rs := [9]) (by kernel_rfl) (by simp) (AllReadyH.cons (o := ⟨some 8, _, _, _, _, _⟩) rfl (fun K hK => ?_) AllReadyH.nil)
            go_simp
            have hb := (Below.refl (w7).heap.size (w7)).alloc (Nat.le_refl _) (.cells (#[.int .u8 0, .int .u8 0, .int .u8 0, .int .u8 0, .int .u8 0, .int .u8 0, .int .u8 0, .int .u8 0, .int .u8 0, .int .u8 0, .int .u8 0, .int .u8 0, .int .u8 0, .int .u8 0, .int .u8 0, .int .u8 0]) 42)
            have hR8 := heap_alloc_new (w7) (.cells (#[.int .u8 0, .int .u8 0, .int .u8 0, .int .u8 0, .int .u8 0, .int .u8 0, .int .u8 0, .int .u8 0, .int .u8 0, .int .u8 0, .int .u8 0, .int .u8 0, .int .u8 0, .int .u8 0, .int .u8 0, .int .u8 0]) 42)
            have hn1 := (Array.getElem?_eq_some_iff.1 hS.1).1
            have hn2 := (Array.getElem?_eq_some_iff.1 hS.2.1).1
            have hn3 := hS.2.2.size
            have hd : ∀ x, (Value.slice p7 mT.length c7).ownBlock = some x → x ≠ (w7).heap.size := fun x e => by have := (hv7.lt x e).2; omega
            replace hv7 := hv7.under hb
            refine hK.out _ _ ⟨row_call hb hS.1, row_call hb hS.2.1, below_call hb hS.2.2⟩ (fun hS => ?_)
            clear hK K
            try simp only [Act.put]
            refine wpAnyH_ready (rs := [10]) (by kernel_rfl) (by simp) (AllReadyH.cons (o := ⟨none, _, _, _, _, _⟩) rfl (fun K hK => ?_) AllReadyH.nil)
            rw [if_pos (by rfl)]
            refine wp_st_row _ _ _ rfl _ (vals dT) (by rfl) (by rfl) _ _ hR8 16 tDrop HDL.out rfl (vals_one _) ?_
            refine hK.out _ _ ⟨row_put_other hS.1 (by omega), row_put_other hS.2.1 (by omega), below_setRow hS.2.2 (by omega) _⟩ (fun hS => ?_)
            clear hK K
            try simp only [Act.put]
            have hR9 := row_put (cs' := vals dT) hR8
            have hv9 := Bts.setRow hv7 hd (vals dT)
            refine wpAnyH_ready (rs := [11]) (by kernel_rfl) (by simp) (AllReadyH.cons (o := ⟨some 9, _, _, _, _, _⟩) rfl (fun K hK => ?_) AllReadyH.nil)
            go_simp
            refine hK.out _ _ hS (fun hS => ?_)
            clear hK K
            try simp only [Act.put]
            refine wpAnyH_ready (rs := [12]) (by kernel_rfl) (by simp) (AllReadyH.cons (o := ⟨some 5, _, _, _, _, _⟩) rfl (fun K hK => ?_) AllReadyH.nil)
            go_simp
            refine hK.out _ _ hS (fun hS => ?_)
            clear hK K
            try simp only [Act.put]
            refine wpAnyH_done (by kernel_rfl) ?_ _
            go_wp2_with fail
            go_meet
            case rel => exact ⟨_, p7, c7, rfl, hR9, rfl, hv9.bytesIn, hp7, rfl, hS.1, hS.2.1, hS.2.2⟩
          · go_simp
            have hb := (Below.refl (w6).heap.size (w6)).alloc (Nat.le_refl _) (.cells (#[.int .u8 0, .int .u8 0, .int .u8 0, .int .u8 0, .int .u8 0, .int .u8 0, .int .u8 0, .int .u8 0, .int .u8 0, .int .u8 0, .int .u8 0, .int .u8 0, .int .u8 0, .int .u8 0, .int .u8 0, .int .u8 0]) 42)
            have hR8 := heap_alloc_new (w6) (.cells (#[.int .u8 0, .int .u8 0, .int .u8 0, .int .u8 0, .int .u8 0, .int .u8 0, .int .u8 0, .int .u8 0, .int .u8 0, .int .u8 0, .int .u8 0, .int .u8 0, .int .u8 0, .int .u8 0, .int .u8 0, .int .u8 0]) 42)
            have hn1 := (Array.getElem?_eq_some_iff.1 hS.1).1
            have hn2 := (Array.getElem?_eq_some_iff.1 hS.2.1).1
            have hn3 := hS.2.2.size
            replace hi6 := hi6.keep hb
            refine hK.out _ _ ⟨row_call hb hS.1, row_call hb hS.2.1, below_call hb hS.2.2⟩ (fun hS => ?_)
            clear hK K
            try simp only [Act.put]
            refine wpAnyH_ready (rs := [4]) (by kernel_rfl) (by simp) (AllReadyH.cons (o := ⟨some 57, _, _, _, _, _⟩) rfl (fun K hK => ?_) AllReadyH.nil)
            go_simp
            refine (HPT.out _ p6 c6 hi6 hl6).mono ?_
            rintro e w7 ⟨hb, v7, rfl, hv7⟩
            obtain ⟨p7, c7, rfl, _, hp7, _, _, _⟩ := hv7.open
            have hd : ∀ x, (Value.slice p7 mT.length c7).ownBlock = some x → x ≠ (w6).heap.size := fun x e h => by have h1 := (hv7.lt x e).1; have h2 := (Array.getElem?_eq_some_iff.1 hR8).1; omega
            replace hR8 := row_call hb hR8
            refine hK.out _ _ ⟨row_call hb hS.1, row_call hb hS.2.1, below_call hb hS.2.2⟩ (fun hS => ?_)
            clear hK K
            try simp only [Act.put]
            refine wpAnyH_take (i := 5) (oi := ⟨some 52, _, _, _, _, _⟩) (v := ?_) rfl (by kernel_rfl) (by kernel_rfl) (by kernel_rfl) (fun _ _ _ h => h) (Or.inl ⟨by rfl, ?_⟩) hS ?_
            rotate_left
            · intro w hSw; go_simp; first | done | with_reducible rfl
            try simp only [Act.put]
            refine wpAnyH_take (i := 6) (oi := ⟨some 58, _, _, _, _, _⟩) (v := ?_) rfl (by kernel_rfl) (by kernel_rfl) (by kernel_rfl) (fun _ _ _ h => h) (Or.inl ⟨by rfl, ?_⟩) hS ?_
            rotate_left
            · intro w hSw; go_simp; first | done | with_reducible rfl
            try simp only [Act.put]
            refine wpAnyH_take (i := 7) (oi := ⟨some 59, _, _, _, _, _⟩) (v := ?_) rfl (by kernel_rfl) (by kernel_rfl) (by kernel_rfl) (fun _ _ _ h => h) (Or.inl ⟨by rfl, ?_⟩) hS ?_
            rotate_left
            · intro w hSw; go_simp; first | done | with_reducible rfl
            try simp only [Act.put]
            refine wpAnyH_take (i := 8) (oi := ⟨some 60, _, _, _, _, _⟩) (v := ?_) rfl (by kernel_rfl) (by kernel_rfl) (by kernel_rfl) (fun _ _ _ h => h) (Or.inl ⟨by rfl, ?_⟩) hS ?_
            rotate_left
            · intro w hSw; go_simp; first | done | with_reducible rfl
            try simp only [Act.put]
            refine wpAnyH_ready (rs := [10]) (by kernel_rfl) (by simp) (AllReadyH.cons (o := ⟨none, _, _, _, _, _⟩) rfl (fun K hK => ?_) AllReadyH.nil)
            rw [if_pos (by rfl)]
            refine wp_st_row _ _ _ rfl _ (vals dT) (by rfl) (by rfl) _ _ hR8 16 tDrop HDL.out rfl (vals_one _) ?_
            refine hK.out _ _ ⟨row_put_other hS.1 (by omega), row_put_other hS.2.1 (by omega), below_setRow hS.2.2 (by omega) _⟩ (fun hS => ?_)
            clear hK K
            try simp only [Act.put]
            have hR9 := row_put (cs' := vals dT) hR8
            have hv9 := Bts.setRow hv7 hd (vals dT)
            refine wpAnyH_ready (rs := [11]) (by kernel_rfl) (by simp) (AllReadyH.cons (o := ⟨some 9, _, _, _, _, _⟩) rfl (fun K hK => ?_) AllReadyH.nil)
            go_simp
            refine hK.out _ _ hS (fun hS => ?_)
            clear hK K
            try simp only [Act.put]
            refine wpAnyH_ready (rs := [12]) (by kernel_rfl) (by simp) (AllReadyH.cons (o := ⟨some 5, _, _, _, _, _⟩) rfl (fun K hK => ?_) AllReadyH.nil)
            go_simp
            refine hK.out _ _ hS (fun hS => ?_)
            clear hK K
            try simp only [Act.put]
            refine wpAnyH_done (by kernel_rfl) ?_ _
            go_wp2_with fail
            go_meet
            case rel => exact ⟨_, p7, c7, rfl, hR9, rfl, hv9.bytesIn, hp7, rfl, hS.1, hS.2.1, hS.2.2⟩
        · go_simp
          have hb := (Below.refl (wc.drew).heap.size (wc.drew)).alloc (Nat.le_refl _) (.cells (#[.int .u8 0, .int .u8 0, .int .u8 0, .int .u8 0, .int .u8 0, .int .u8 0, .int .u8 0, .int .u8 0, .int .u8 0, .int .u8 0, .int .u8 0, .int .u8 0, .int .u8 0, .int .u8 0, .int .u8 0, .int .u8 0]) 42)
          have hR8 := heap_alloc_new (wc.drew) (.cells (#[.int .u8 0, .int .u8 0, .int .u8 0, .int .u8 0, .int .u8 0, .int .u8 0, .int .u8 0, .int .u8 0, .int .u8 0, .int .u8 0, .int .u8 0, .int .u8 0, .int .u8 0, .int .u8 0, .int .u8 0, .int .u8 0]) 42)
          have hn1 := (Array.getElem?_eq_some_iff.1 hS.1).1
          have hn2 := (Array.getElem?_eq_some_iff.1 hS.2.1).1
          have hn3 := hS.2.2.size
          have hdr : wc.drew.heap.size = wc.heap.size := rfl
          refine hK.out _ _ ⟨row_call hb hS.1, row_call hb hS.2.1, below_call hb hS.2.2⟩ (fun hS => ?_)
          clear hK K
          try simp only [Act.put]
          refine wpAnyH_ready (rs := [3]) (by kernel_rfl) (by simp) (AllReadyH.cons (o := ⟨some 56, _, _, _, _, _⟩) rfl (fun K hK => ?_) AllReadyH.nil)
          go_simp
          refine (HCP.out _ hS.2.2).mono ?_
          rintro e w6 ⟨hb, v6, rfl, hv6⟩
          obtain ⟨p6, c6, rfl, hi6, hp6, _, hl6, _⟩ := hv6.open
          rw [HLB.out] at hl6 ⊢
          replace hR8 := row_call hb hR8
          refine hK.out _ _ ⟨row_call hb hS.1, row_call hb hS.2.1, below_call hb hS.2.2⟩ (fun hS => ?_)
          clear hK K
          try simp only [Act.put]
          refine wpAnyH_ready (rs := [4]) (by kernel_rfl) (by simp) (AllReadyH.cons (o := ⟨some 57, _, _, _, _, _⟩) rfl (fun K hK => ?_) AllReadyH.nil)
          go_simp
          refine (HPT.out _ p6 c6 hi6 hl6).mono ?_
          rintro e w7 ⟨hb, v7, rfl, hv7⟩
          obtain ⟨p7, c7, rfl, _, hp7, _, _, _⟩ := hv7.open
          have hd : ∀ x, (Value.slice p7 mT.length c7).ownBlock = some x → x ≠ (wc).heap.size := fun x e h => by have h1 := (hv7.lt x e).1; have h2 := (Array.getElem?_eq_some_iff.1 hR8).1; omega
          replace hR8 := row_call hb hR8
          refine hK.out _ _ ⟨row_call hb hS.1, row_call hb hS.2.1, below_call hb hS.2.2⟩ (fun hS => ?_)
          clear hK K
          try simp only [Act.put]
          refine wpAnyH_take (i := 5) (oi := ⟨some 52, _, _, _, _, _⟩) (v := ?_) rfl (by kernel_rfl) (by kernel_rfl) (by kernel_rfl) (fun _ _ _ h => h) (Or.inl ⟨by rfl, ?_⟩) hS ?_
          rotate_left
          · intro w hSw; go_simp; first | done | with_reducible rfl
          try simp only [Act.put]
          refine wpAnyH_take (i := 6) (oi := ⟨some 58, _, _, _, _, _⟩) (v := ?_) rfl (by kernel_rfl) (by kernel_rfl) (by kernel_rfl) (fun _ _ _ h => h) (Or.inl ⟨by rfl, ?_⟩) hS ?_
          rotate_left
          · intro w hSw; go_simp; first | done | with_reducible rfl
          try simp only [Act.put]
          refine wpAnyH_take (i := 7) (oi := ⟨some 59, _, _, _, _, _⟩) (v := ?_) rfl (by kernel_rfl) (by kernel_rfl) (by kernel_rfl) (fun _ _ _ h => h) (Or.inl ⟨by rfl, ?_⟩) hS ?_
          rotate_left
          · intro w hSw; go_simp; first | done | with_reducible rfl
          try simp only [Act.put]
          refine wpAnyH_take (i := 8) (oi := ⟨some 60, _, _, _, _, _⟩) (v := ?_) rfl (by kernel_rfl) (by kernel_rfl) (by kernel_rfl) (fun _ _ _ h => h) (Or.inl ⟨by rfl, ?_⟩) hS ?_
          rotate_left
          · intro w hSw; go_simp; first | done | with_reducible rfl
          try simp only [Act.put]
          refine wpAnyH_ready (rs := [10]) (by kernel_rfl) (by simp) (AllReadyH.cons (o := ⟨none, _, _, _, _, _⟩) rfl (fun K hK => ?_) AllReadyH.nil)
          rw [if_pos (by rfl)]
          refine wp_st_row _ _ _ rfl _ (vals dT) (by rfl) (by rfl) _ _ hR8 16 tDrop HDL.out rfl (vals_one _) ?_
          refine hK.out _ _ ⟨row_put_other hS.1 (by omega), row_put_other hS.2.1 (by omega), below_setRow hS.2.2 (by omega) _⟩ (fun hS => ?_)
          clear hK K
          try simp only [Act.put]
          have hR9 := row_put (cs' := vals dT) hR8
          have hv9 := Bts.setRow hv7 hd (vals dT)
          refine wpAnyH_ready (rs := [11]) (by kernel_rfl) (by simp) (AllReadyH.cons (o := ⟨some 9, _, _, _, _, _⟩) rfl (fun K hK => ?_) AllReadyH.nil)
          go_simp
          refine hK.out _ _ hS (fun hS => ?_)
          clear hK K
          try simp only [Act.put]
          refine wpAnyH_ready (rs := [12]) (by kernel_rfl) (by simp) (AllReadyH.cons (o := ⟨some 5, _, _, _, _, _⟩) rfl (fun K hK => ?_) AllReadyH.nil)
          go_simp
          refine hK.out _ _ hS (fun hS => ?_)
          clear hK K
          try simp only [Act.put]
          refine wpAnyH_done (by kernel_rfl) ?_ _
          go_wp2_with fail
          go_meet
          case rel => exact ⟨_, p7, c7, rfl, hR9, rfl, hv9.bytesIn, hp7, rfl, hS.1, hS.2.1, hS.2.2⟩
      case rest =>
        obtain ⟨g8, p7, c7, rfl, hr8, rfl, hb7, hp7, rfl, hcut⟩ := hcut
        clear HROW HC5 HB hT hT5
        obtain ⟨hc5, hrow, hbb⟩ := hcut
        have HC5 := Lib.hid hc5
        have HROW := Lib.hid hrow
        have HB := Lib.hid hbb
        clear hc5 hrow hbb
        have hT := conf_cells HROW.out (Below.refl _ _)
        have hT5 := conf_cells HC5.out (Below.refl _ _)
        have HR8 := Lib.hid hr8
        have BI7 := Lib.hid hb7
        have HP7 := Lib.hid hp7
        clear hr8 hb7 hp7
        go_upto_if 62 with fail
        go_cut [] (fun wc => wc.heap[w1.heap.size]? = some (.cells (#[.int .i64 m0, .int .i64 m1, .int .i64 m2, .int .i64 m3, .int .i64 m4, .int .i64 m5]) 23 (0, 0)) ∧ wc.heap[w.heap.size]? = some (.cells (#[.int .i64 n0, .int .i64 n1, .int .i64 n2, .int .i64 n3, .int .i64 n4, .int .i64 n5, .int .u8 x0, .int .u8 x1, .int .u8 x2, .int .u8 x3, .int .u8 x4, .int .u8 x5, .int .u8 x6, .int .u8 x7, .int .u8 x8, .int .u8 x9, .int .u8 x10, .int .u8 x11, .int .u8 x12, .int .u8 x13, .int .u8 x14, .int .u8 x15, .bool y, .slice pm nm cm, .slice qb nb cb]) 44 (0, 0)) ∧ Below w.heap.size w wc)
        case first =>
          by_cases he : eT = 0
          · have HE := Lib.hid he
            have hb0 : (eT == 0) = true := by rw [he]; rfl
            clear he
            go_wp2_with first
              | ((with_reducible refine guard_list ?_); refine held_load 23 _ rfl ?_; refine wpl_ld_at rfl _ _ rfl (⟨w1.heap.size, 0, none⟩) rfl (#[.int .i64 m0, .int .i64 m1, .int .i64 m2, .int .i64 m3, .int .i64 m4, .int .i64 m5]) 6 tConf rfl (row_part (o := 0) HC5.out (fun j v hv => by rwa [Nat.zero_add])) ?_)
              | ((with_reducible refine guard_list ?_); refine held_load 42 _ rfl ?_; refine wpl_ld_at rfl _ _ rfl (⟨g8, 0, none⟩) rfl (vals dT) 16 tDrop HDL.out (row_part (o := 0) HR8.out (fun j v hv => by rwa [Nat.zero_add])) ?_)
              | (go_at_call 22; refine (HTQ.out HE.out _ p7 c7 BI7.out HP7.out).mono ?_; rintro e w8 ⟨hb, v8, rfl, hv8⟩; obtain ⟨p8, c8, rfl, hi8, hp8, _, hl8, _⟩ := hv8.open; rw [HLB.out]; rw [HLB.out] at hl8; have BI8 := Lib.hid hi8; have HP8 := Lib.hid hp8; have HCP8 := Lib.hid hl8; clear hi8 hp8 hl8 hv8; replace HROW := Lib.hid (row_call hb HROW.out); replace HC5 := Lib.hid (row_call hb HC5.out); replace HB := Lib.hid (below_call hb HB.out); clear hb; clear hT; have hT := conf_cells HROW.out (Below.refl _ _); clear hT5; have hT5 := conf_cells HC5.out (Below.refl _ _))
              | (go_at_call 24; refine (HEQ.out _ p8 c8 BI8.out HB.out).mono ?_; rintro e w9 ⟨_, rfl, rfl, hb⟩; replace HROW := Lib.hid (row_call hb HROW.out); replace HC5 := Lib.hid (row_call hb HC5.out); replace HB := Lib.hid (below_call hb HB.out); clear hb; clear hT; have hT := conf_cells HROW.out (Below.refl _ _); clear hT5; have hT5 := conf_cells HC5.out (Below.refl _ _))
            go_meet
            case rel => exact ⟨HC5.out, HROW.out, HB.out⟩
          · have hb0 : (eT == 0) = false := by rw [beq_eq_false_iff_ne]; exact he
            clear he
            go_wp2_with fail
            go_meet
            case rel => exact ⟨HC5.out, HROW.out, HB.out⟩
        case rest =>
          clear HROW HC5 HB hT hT5
          obtain ⟨hc5, hrow, hbb⟩ := hcut
          have HC5 := Lib.hid hc5
          have HROW := Lib.hid hrow
          have HB := Lib.hid hbb
          clear hc5 hrow hbb
          have hT := conf_cells HROW.out (Below.refl _ _)
          have hT5 := conf_cells HC5.out (Below.refl _ _)
          go_upto_region 16 with fail
          go_cut [12, 9, 5] (fun v12 v9 v5 wc => ∃ p c, v12 = .bool yR ∧ v9 = .slice p mR.length c ∧ BytesIn wc p mR ∧ (p = none → c = 0) ∧ v5 = .int .i64 eR ∧ wc.heap[w1.heap.size]? = some (.cells (#[.int .i64 m0, .int .i64 m1, .int .i64 m2, .int .i64 m3, .int .i64 m4, .int .i64 m5]) 23 (0, 0)) ∧ wc.heap[w.heap.size]? = some (.cells (#[.int .i64 n0, .int .i64 n1, .int .i64 n2, .int .i64 n3, .int .i64 n4, .int .i64 n5, .int .u8 x0, .int .u8 x1, .int .u8 x2, .int .u8 x3, .int .u8 x4, .int .u8 x5, .int .u8 x6, .int .u8 x7, .int .u8 x8, .int .u8 x9, .int .u8 x10, .int .u8 x11, .int .u8 x12, .int .u8 x13, .int .u8 x14, .int .u8 x15, .bool y, .slice pm nm cm, .slice qb nb cb]) 44 (0, 0)) ∧ Below w.heap.size w wc)
          case first =>
            refine wp_region_held_drew (S := (fun w' : World => w'.heap[w1.heap.size]? = some (.cells (#[.int .i64 m0, .int .i64 m1, .int .i64 m2, .int .i64 m3, .int .i64 m4, .int .i64 m5]) 23 (0, 0)) ∧ w'.heap[w.heap.size]? = some (.cells (#[.int .i64 n0, .int .i64 n1, .int .i64 n2, .int .i64 n3, .int .i64 n4, .int .i64 n5, .int .u8 x0, .int .u8 x1, .int .u8 x2, .int .u8 x3, .int .u8 x4, .int .u8 x5, .int .u8 x6, .int .u8 x7, .int .u8 x8, .int .u8 x9, .int .u8 x10, .int .u8 x11, .int .u8 x12, .int .u8 x13, .int .u8 x14, .int .u8 x15, .bool y, .slice pm nm cm, .slice qb nb cb]) 44 (0, 0)) ∧ Below w.heap.size w w')) (by kernel_rfl) ⟨HC5.out, HROW.out, HB.out.drew⟩ (fun hS => ?_)
            refine wpAnyH_take (i := 0) (oi := ⟨some 80, _, _, _, _, _⟩) rfl (by kernel_rfl) (by kernel_rfl) (by kernel_rfl) (fun _ _ _ h => h) (yieldsIf_row (by rfl) _ _ rfl _ (by rfl) _ _ (fun _ h => h.1) 6 tConf (by rfl)) hS ?_
            try simp only [Act.put]
            refine wpAnyH_take (i := 1) (oi := ⟨some 81, _, _, _, _, _⟩) (v := ?_) rfl (by kernel_rfl) (by kernel_rfl) (by kernel_rfl) (fun _ _ _ h => h) (Or.inl ⟨by rfl, ?_⟩) hS ?_
            rotate_left
            · intro w hSw; go_simp; first | done | with_reducible rfl
            try simp only [Act.put]
            refine wpAnyH_take (i := 2) (oi := ⟨some 82, _, _, _, _, _⟩) rfl (by kernel_rfl) (by kernel_rfl) (by kernel_rfl) (fun _ _ _ h => h) (yieldsIf_cell (by rfl) _ _ rfl (⟨w.heap.size, 24, none⟩) (by rfl) (.slice qb nb cb) (fun _ h => (row_cell h.2.1 24).trans (by rfl)) tSl) hS ?_
            try simp only [Act.put]
            refine wpAnyH_ready (rs := [3]) (by kernel_rfl) (by simp) (AllReadyH.cons (o := ⟨some 83, _, _, _, _, _⟩) rfl (fun K hK => ?_) AllReadyH.nil)
            go_simp
            refine (HCP.out _ hS.2.2).mono ?_
            rintro e w10 ⟨hb, v10, rfl, hv10⟩
            obtain ⟨p10, c10, rfl, hi10, hp10, _, hl10, _⟩ := hv10.open
            rw [HLB.out] at hl10 ⊢
            refine hK.out _ _ ⟨row_call hb hS.1, row_call hb hS.2.1, below_call hb hS.2.2⟩ (fun hS => ?_)
            clear hK K
            try simp only [Act.put]
            refine wpAnyH_ready (rs := [4]) (by kernel_rfl) (by simp) (AllReadyH.cons (o := ⟨some 84, _, _, _, _, _⟩) rfl (fun K hK => ?_) AllReadyH.nil)
            go_simp
            refine (HPR.out _ p10 c10 hi10 hl10).mono ?_
            rintro e w11 ⟨hb, v11, rfl, hv11⟩
            obtain ⟨p11, c11, rfl, hi11, hp11, _, _, _⟩ := hv11.open
            refine hK.out _ _ ⟨row_call hb hS.1, row_call hb hS.2.1, below_call hb hS.2.2⟩ (fun hS => ?_)
            clear hK K
            try simp only [Act.put]
            refine wpAnyH_take (i := 5) (oi := ⟨some 79, _, _, _, _, _⟩) (v := ?_) rfl (by kernel_rfl) (by kernel_rfl) (by kernel_rfl) (fun _ _ _ h => h) (Or.inl ⟨by rfl, ?_⟩) hS ?_
            rotate_left
            · intro w hSw; go_simp; first | done | with_reducible rfl
            try simp only [Act.put]
            refine wpAnyH_take (i := 6) (oi := ⟨some 85, _, _, _, _, _⟩) (v := ?_) rfl (by kernel_rfl) (by kernel_rfl) (by kernel_rfl) (fun _ _ _ h => h) (Or.inl ⟨by rfl, ?_⟩) hS ?_
            rotate_left
            · intro w hSw; go_simp; first | done | with_reducible rfl
            try simp only [Act.put]
            refine wpAnyH_take (i := 7) (oi := ⟨some 86, _, _, _, _, _⟩) (v := ?_) rfl (by kernel_rfl) (by kernel_rfl) (by kernel_rfl) (fun _ _ _ h => h) (Or.inl ⟨by rfl, ?_⟩) hS ?_
            rotate_left
            · intro w hSw; go_simp; first | done | with_reducible rfl
            try simp only [Act.put]
            refine wpAnyH_take (i := 8) (oi := ⟨some 87, _, _, _, _, _⟩) (v := ?_) rfl (by kernel_rfl) (by kernel_rfl) (by kernel_rfl) (fun _ _ _ h => h) (Or.inl ⟨by rfl, ?_⟩) hS ?_
            rotate_left
            · intro w hSw; go_simp; first | done | with_reducible rfl
            try simp only [Act.put]
            refine wpAnyH_ready (rs := [9]) (by kernel_rfl) (by simp) (AllReadyH.cons (o := ⟨some 12, _, _, _, _, _⟩) rfl (fun K hK => ?_) AllReadyH.nil)
            go_simp
            refine hK.out _ _ hS (fun hS => ?_)
            clear hK K
            try simp only [Act.put]
            refine wpAnyH_ready (rs := [10]) (by kernel_rfl) (by simp) (AllReadyH.cons (o := ⟨some 9, _, _, _, _, _⟩) rfl (fun K hK => ?_) AllReadyH.nil)
            go_simp
            refine hK.out _ _ hS (fun hS => ?_)
            clear hK K
            try simp only [Act.put]
            refine wpAnyH_ready (rs := [11]) (by kernel_rfl) (by simp) (AllReadyH.cons (o := ⟨some 5, _, _, _, _, _⟩) rfl (fun K hK => ?_) AllReadyH.nil)
            go_simp
            refine hK.out _ _ hS (fun hS => ?_)
            clear hK K
            try simp only [Act.put]
            refine wpAnyH_done (by kernel_rfl) ?_ _
            go_wp2_with fail
            go_meet
            case rel => exact ⟨p11, c11, rfl, rfl, hi11, hp11, rfl, hS.1, hS.2.1, hS.2.2⟩
          case rest =>
            obtain ⟨p11, c11, rfl, rfl, hb11, hp11, rfl, hcut⟩ := hcut
            clear HROW HC5 HB hT hT5
            obtain ⟨hc5, hrow, hbb⟩ := hcut
            have HC5 := Lib.hid hc5
            have HROW := Lib.hid hrow
            have HB := Lib.hid hbb
            clear hc5 hrow hbb
            have hT := conf_cells HROW.out (Below.refl _ _)
            have hT5 := conf_cells HC5.out (Below.refl _ _)
            have BI11 := Lib.hid hb11
            have HP11 := Lib.hid hp11
            clear hb11 hp11
            go_upto_if 89 with fail
            go_cut [] (fun wc => wc.heap[w1.heap.size]? = some (.cells (#[.int .i64 m0, .int .i64 m1, .int .i64 m2, .int .i64 m3, .int .i64 m4, .int .i64 m5]) 23 (0, 0)) ∧ wc.heap[w.heap.size]? = some (.cells (#[.int .i64 n0, .int .i64 n1, .int .i64 n2, .int .i64 n3, .int .i64 n4, .int .i64 n5, .int .u8 x0, .int .u8 x1, .int .u8 x2, .int .u8 x3, .int .u8 x4, .int .u8 x5, .int .u8 x6, .int .u8 x7, .int .u8 x8, .int .u8 x9, .int .u8 x10, .int .u8 x11, .int .u8 x12, .int .u8 x13, .int .u8 x14, .int .u8 x15, .bool y, .slice pm nm cm, .slice qb nb cb]) 44 (0, 0)) ∧ Below w.heap.size w wc)
            case first =>
              by_cases he : eR = 0
              · have HE := Lib.hid he
                have hb0 : (eR == 0) = true := by rw [he]; rfl
                clear he
                go_wp2_with first
                  | ((with_reducible refine guard_list ?_); refine held_load 23 _ rfl ?_; refine wpl_ld_at rfl _ _ rfl (⟨w1.heap.size, 0, none⟩) rfl (#[.int .i64 m0, .int .i64 m1, .int .i64 m2, .int .i64 m3, .int .i64 m4, .int .i64 m5]) 6 tConf rfl (row_part (o := 0) HC5.out (fun j v hv => by rwa [Nat.zero_add])) ?_)
                  | (go_at_call 25; refine (HRQ.out HE.out _ p11 c11 BI11.out HP11.out).mono ?_; rintro e w12 ⟨hb, v12, rfl, hv12⟩; obtain ⟨p12, c12, rfl, hi12, hp12, _, hl12, _⟩ := hv12.open; rw [HLB.out]; rw [HLB.out] at hl12; have BI12 := Lib.hid hi12; have HP12 := Lib.hid hp12; have HCP12 := Lib.hid hl12; clear hi12 hp12 hl12 hv12; replace HROW := Lib.hid (row_call hb HROW.out); replace HC5 := Lib.hid (row_call hb HC5.out); replace HB := Lib.hid (below_call hb HB.out); clear hb; clear hT; have hT := conf_cells HROW.out (Below.refl _ _); clear hT5; have hT5 := conf_cells HC5.out (Below.refl _ _))
                  | (go_at_call 24; refine (HEQ.out _ p12 c12 BI12.out HB.out).mono ?_; rintro e w13 ⟨_, rfl, rfl, hb⟩; replace HROW := Lib.hid (row_call hb HROW.out); replace HC5 := Lib.hid (row_call hb HC5.out); replace HB := Lib.hid (below_call hb HB.out); clear hb; clear hT; have hT := conf_cells HROW.out (Below.refl _ _); clear hT5; have hT5 := conf_cells HC5.out (Below.refl _ _))
                go_meet
                case rel => exact ⟨HC5.out, HROW.out, HB.out⟩
              · have hb0 : (eR == 0) = false := by rw [beq_eq_false_iff_ne]; exact he
                clear he
                go_wp2_with fail
                go_meet
                case rel => exact ⟨HC5.out, HROW.out, HB.out⟩
            case rest =>
              clear HROW HC5 HB hT hT5
              obtain ⟨hc5, hrow, hbb⟩ := hcut
              have HC5 := Lib.hid hc5
              have HROW := Lib.hid hrow
              have HB := Lib.hid hbb
              clear hc5 hrow hbb
              have hT := conf_cells HROW.out (Below.refl _ _)
              have hT5 := conf_cells HC5.out (Below.refl _ _)
              go_upto_region 21 with fail
              go_cut [15, 9, 5] (fun v15 v9 v5 wc => ∃ p c, v15 = .int .i64 kD ∧ v9 = .slice p mD.length c ∧ BytesIn wc p mD ∧ (p = none → c = 0) ∧ v5 = .int .i64 eD ∧ wc.heap[w1.heap.size]? = some (.cells (#[.int .i64 m0, .int .i64 m1, .int .i64 m2, .int .i64 m3, .int .i64 m4, .int .i64 m5]) 23 (0, 0)) ∧ wc.heap[w.heap.size]? = some (.cells (#[.int .i64 n0, .int .i64 n1, .int .i64 n2, .int .i64 n3, .int .i64 n4, .int .i64 n5, .int .u8 x0, .int .u8 x1, .int .u8 x2, .int .u8 x3, .int .u8 x4, .int .u8 x5, .int .u8 x6, .int .u8 x7, .int .u8 x8, .int .u8 x9, .int .u8 x10, .int .u8 x11, .int .u8 x12, .int .u8 x13, .int .u8 x14, .int .u8 x15, .bool y, .slice pm nm cm, .slice qb nb cb]) 44 (0, 0)) ∧ Below w.heap.size w wc)
              case first =>
                refine wp_region_held_drew (S := (fun w' : World => w'.heap[w1.heap.size]? = some (.cells (#[.int .i64 m0, .int .i64 m1, .int .i64 m2, .int .i64 m3, .int .i64 m4, .int .i64 m5]) 23 (0, 0)) ∧ w'.heap[w.heap.size]? = some (.cells (#[.int .i64 n0, .int .i64 n1, .int .i64 n2, .int .i64 n3, .int .i64 n4, .int .i64 n5, .int .u8 x0, .int .u8 x1, .int .u8 x2, .int .u8 x3, .int .u8 x4, .int .u8 x5, .int .u8 x6, .int .u8 x7, .int .u8 x8, .int .u8 x9, .int .u8 x10, .int .u8 x11, .int .u8 x12, .int .u8 x13, .int .u8 x14, .int .u8 x15, .bool y, .slice pm nm cm, .slice qb nb cb]) 44 (0, 0)) ∧ Below w.heap.size w w')) (by kernel_rfl) ⟨HC5.out, HROW.out, HB.out.drew⟩ (fun hS => ?_)
                refine wpAnyH_take (i := 0) (oi := ⟨some 107, _, _, _, _, _⟩) rfl (by kernel_rfl) (by kernel_rfl) (by kernel_rfl) (fun _ _ _ h => h) (yieldsIf_row (by rfl) _ _ rfl _ (by rfl) _ _ (fun _ h => h.1) 6 tConf (by rfl)) hS ?_
                try simp only [Act.put]
                refine wpAnyH_take (i := 1) (oi := ⟨some 108, _, _, _, _, _⟩) (v := ?_) rfl (by kernel_rfl) (by kernel_rfl) (by kernel_rfl) (fun _ _ _ h => h) (Or.inl ⟨by rfl, ?_⟩) hS ?_
                rotate_left
                · intro w hSw; go_simp; first | done | with_reducible rfl
                try simp only [Act.put]
                refine wpAnyH_take (i := 2) (oi := ⟨some 109, _, _, _, _, _⟩) rfl (by kernel_rfl) (by kernel_rfl) (by kernel_rfl) (fun _ _ _ h => h) (yieldsIf_cell (by rfl) _ _ rfl (⟨w.heap.size, 24, none⟩) (by rfl) (.slice qb nb cb) (fun _ h => (row_cell h.2.1 24).trans (by rfl)) tSl) hS ?_
                try simp only [Act.put]
                refine wpAnyH_ready (rs := [3]) (by kernel_rfl) (by simp) (AllReadyH.cons (o := ⟨some 110, _, _, _, _, _⟩) rfl (fun K hK => ?_) AllReadyH.nil)
                go_simp
                refine (HCP.out _ hS.2.2).mono ?_
                rintro e w10 ⟨hb, v10, rfl, hv10⟩
                obtain ⟨p10, c10, rfl, hi10, hp10, _, hl10, _⟩ := hv10.open
                rw [HLB.out] at hl10 ⊢
                refine hK.out _ _ ⟨row_call hb hS.1, row_call hb hS.2.1, below_call hb hS.2.2⟩ (fun hS => ?_)
                clear hK K
                try simp only [Act.put]
                refine wpAnyH_ready (rs := [4]) (by kernel_rfl) (by simp) (AllReadyH.cons (o := ⟨some 111, _, _, _, _, _⟩) rfl (fun K hK => ?_) AllReadyH.nil)
                go_simp
                refine (HPD.out _ p10 c10 hi10 hl10).mono ?_
                rintro e w11 ⟨hb, v11, rfl, hv11⟩
                obtain ⟨p11, c11, rfl, hi11, hp11, _, _, _⟩ := hv11.open
                refine hK.out _ _ ⟨row_call hb hS.1, row_call hb hS.2.1, below_call hb hS.2.2⟩ (fun hS => ?_)
                clear hK K
                try simp only [Act.put]
                refine wpAnyH_take (i := 5) (oi := ⟨some 106, _, _, _, _, _⟩) (v := ?_) rfl (by kernel_rfl) (by kernel_rfl) (by kernel_rfl) (fun _ _ _ h => h) (Or.inl ⟨by rfl, ?_⟩) hS ?_
                rotate_left
                · intro w hSw; go_simp; first | done | with_reducible rfl
                try simp only [Act.put]
                refine wpAnyH_take (i := 6) (oi := ⟨some 112, _, _, _, _, _⟩) (v := ?_) rfl (by kernel_rfl) (by kernel_rfl) (by kernel_rfl) (fun _ _ _ h => h) (Or.inl ⟨by rfl, ?_⟩) hS ?_
                rotate_left
                · intro w hSw; go_simp; first | done | with_reducible rfl
                try simp only [Act.put]
                refine wpAnyH_take (i := 7) (oi := ⟨some 113, _, _, _, _, _⟩) (v := ?_) rfl (by kernel_rfl) (by kernel_rfl) (by kernel_rfl) (fun _ _ _ h => h) (Or.inl ⟨by rfl, ?_⟩) hS ?_
                rotate_left
                · intro w hSw; go_simp; first | done | with_reducible rfl
                try simp only [Act.put]
                refine wpAnyH_take (i := 8) (oi := ⟨some 114, _, _, _, _, _⟩) (v := ?_) rfl (by kernel_rfl) (by kernel_rfl) (by kernel_rfl) (fun _ _ _ h => h) (Or.inl ⟨by rfl, ?_⟩) hS ?_
                rotate_left
                · intro w hSw; go_simp; first | done | with_reducible rfl
                try simp only [Act.put]
                refine wpAnyH_ready (rs := [9]) (by kernel_rfl) (by simp) (AllReadyH.cons (o := ⟨some 15, _, _, _, _, _⟩) rfl (fun K hK => ?_) AllReadyH.nil)
                go_simp
                refine hK.out _ _ hS (fun hS => ?_)
                clear hK K
                try simp only [Act.put]
                refine wpAnyH_ready (rs := [10]) (by kernel_rfl) (by simp) (AllReadyH.cons (o := ⟨some 9, _, _, _, _, _⟩) rfl (fun K hK => ?_) AllReadyH.nil)
                go_simp
                refine hK.out _ _ hS (fun hS => ?_)
                clear hK K
                try simp only [Act.put]
                refine wpAnyH_ready (rs := [11]) (by kernel_rfl) (by simp) (AllReadyH.cons (o := ⟨some 5, _, _, _, _, _⟩) rfl (fun K hK => ?_) AllReadyH.nil)
                go_simp
                refine hK.out _ _ hS (fun hS => ?_)
                clear hK K
                try simp only [Act.put]
                refine wpAnyH_done (by kernel_rfl) ?_ _
                go_wp2_with fail
                go_meet
                case rel => exact ⟨p11, c11, rfl, rfl, hi11, hp11, rfl, hS.1, hS.2.1, hS.2.2⟩
              case rest =>
                obtain ⟨p11, c11, rfl, rfl, hb11, hp11, rfl, hcut⟩ := hcut
                clear HROW HC5 HB hT hT5
                obtain ⟨hc5, hrow, hbb⟩ := hcut
                have HC5 := Lib.hid hc5
                have HROW := Lib.hid hrow
                have HB := Lib.hid hbb
                clear hc5 hrow hbb
                have hT := conf_cells HROW.out (Below.refl _ _)
                have hT5 := conf_cells HC5.out (Below.refl _ _)
                have BI11 := Lib.hid hb11
                have HP11 := Lib.hid hp11
                clear hb11 hp11
                go_upto_if 116 with fail
                go_cut [] (fun wc => wc.heap[w1.heap.size]? = some (.cells (#[.int .i64 m0, .int .i64 m1, .int .i64 m2, .int .i64 m3, .int .i64 m4, .int .i64 m5]) 23 (0, 0)) ∧ wc.heap[w.heap.size]? = some (.cells (#[.int .i64 n0, .int .i64 n1, .int .i64 n2, .int .i64 n3, .int .i64 n4, .int .i64 n5, .int .u8 x0, .int .u8 x1, .int .u8 x2, .int .u8 x3, .int .u8 x4, .int .u8 x5, .int .u8 x6, .int .u8 x7, .int .u8 x8, .int .u8 x9, .int .u8 x10, .int .u8 x11, .int .u8 x12, .int .u8 x13, .int .u8 x14, .int .u8 x15, .bool y, .slice pm nm cm, .slice qb nb cb]) 44 (0, 0)) ∧ Below w.heap.size w wc)
                case first =>
                  by_cases he : eD = 0
                  · have HE := Lib.hid he
                    have hb0 : (eD == 0) = true := by rw [he]; rfl
                    clear he
                    go_wp2_with first
                      | ((with_reducible refine guard_list ?_); refine held_load 23 _ rfl ?_; refine wpl_ld_at rfl _ _ rfl (⟨w1.heap.size, 0, none⟩) rfl (#[.int .i64 m0, .int .i64 m1, .int .i64 m2, .int .i64 m3, .int .i64 m4, .int .i64 m5]) 6 tConf rfl (row_part (o := 0) HC5.out (fun j v hv => by rwa [Nat.zero_add])) ?_)
                      | (go_at_call 27; refine (HDQ.out HE.out _ p11 c11 BI11.out HP11.out HB.out).mono ?_; rintro e w12 ⟨hb, v12, rfl, hv12⟩; obtain ⟨p12, c12, rfl, hi12, hp12, _, hl12, _⟩ := hv12.open; rw [HLB.out]; rw [HLB.out] at hl12; have BI12 := Lib.hid hi12; have HP12 := Lib.hid hp12; have HCP12 := Lib.hid hl12; clear hi12 hp12 hl12 hv12; replace HROW := Lib.hid (row_call hb HROW.out); replace HC5 := Lib.hid (row_call hb HC5.out); replace HB := Lib.hid (below_call hb HB.out); clear hb; clear hT; have hT := conf_cells HROW.out (Below.refl _ _); clear hT5; have hT5 := conf_cells HC5.out (Below.refl _ _))
                      | (go_at_call 24; refine (HEQ.out _ p12 c12 BI12.out HB.out).mono ?_; rintro e w13 ⟨_, rfl, rfl, hb⟩; replace HROW := Lib.hid (row_call hb HROW.out); replace HC5 := Lib.hid (row_call hb HC5.out); replace HB := Lib.hid (below_call hb HB.out); clear hb; clear hT; have hT := conf_cells HROW.out (Below.refl _ _); clear hT5; have hT5 := conf_cells HC5.out (Below.refl _ _))
                    go_meet
                    case rel => exact ⟨HC5.out, HROW.out, HB.out⟩
                  · have hb0 : (eD == 0) = false := by rw [beq_eq_false_iff_ne]; exact he
                    clear he
                    go_wp2_with fail
                    go_meet
                    case rel => exact ⟨HC5.out, HROW.out, HB.out⟩
                case rest =>
                  clear HROW HC5 HB hT hT5
                  obtain ⟨hc5, hrow, hbb⟩ := hcut
                  have HC5 := Lib.hid hc5
                  have HROW := Lib.hid hrow
                  have HB := Lib.hid hbb
                  clear hc5 hrow hbb
                  have hT := conf_cells HROW.out (Below.refl _ _)
                  have hT5 := conf_cells HC5.out (Below.refl _ _)
                  go_upto_if 142 with (first
                    | (go_at_call 15; refine (HCP.out _ HB.out).mono ?_; rintro e w14 ⟨hb, v14, rfl, hv14⟩; obtain ⟨p14, c14, rfl, hi14, hp14, _, hl14, _⟩ := hv14.open; rw [HLB.out]; rw [HLB.out] at hl14; have BI14 := Lib.hid hi14; have HP14 := Lib.hid hp14; have HCP14 := Lib.hid hl14; clear hi14 hp14 hl14 hv14; replace HROW := Lib.hid (row_call hb HROW.out); replace HC5 := Lib.hid (row_call hb HC5.out); replace HB := Lib.hid (below_call hb HB.out); clear hb; clear hT; have hT := conf_cells HROW.out (Below.refl _ _); clear hT5; have hT5 := conf_cells HC5.out (Below.refl _ _))
                    | (go_at_call 14; refine (HPF.out _ p14 c14 BI14.out HP14.out).mono ?_; rintro e w15 ⟨hb, v15, vs, rfl, hv, hvs⟩; obtain ⟨p15, c15, rfl, hin15, hp15⟩ := hv.1.open; have RI15 := Lib.hid hin15; have HP15 := Lib.hid hp15; have HVS := Lib.hid hvs; clear hin15 hp15 hv hvs; replace HROW := Lib.hid (row_call hb HROW.out); replace HC5 := Lib.hid (row_call hb HC5.out); replace HB := Lib.hid (below_call hb HB.out); clear hb; clear hT; have hT := conf_cells HROW.out (Below.refl _ _); clear hT5; have hT5 := conf_cells HC5.out (Below.refl _ _)))
                  by_cases he : eF = 0
                  · have HE := Lib.hid he
                    have hb0 : (eF == 0) = true := by rw [he]; rfl
                    clear he
                    go_wp2_with first
                      | (go_at_call 12; refine (HFQ.out HE.out _ p15 c15 vs HVS.out RI15.out HB.out).mono ?_; rintro e w16 ⟨hb, v16, rfl, hv16⟩; obtain ⟨p16, c16, rfl, hi16, hp16, _, hl16, _⟩ := hv16.open; rw [HLB.out]; rw [HLB.out] at hl16; have BI16 := Lib.hid hi16; have HP16 := Lib.hid hp16; have HCP16 := Lib.hid hl16; clear hi16 hp16 hl16 hv16; replace HROW := Lib.hid (row_call hb HROW.out); replace HC5 := Lib.hid (row_call hb HC5.out); replace HB := Lib.hid (below_call hb HB.out); clear hb; clear hT; have hT := conf_cells HROW.out (Below.refl _ _); clear hT5; have hT5 := conf_cells HC5.out (Below.refl _ _))
                      | (go_at_call 24; refine (HEQ.out _ p16 c16 BI16.out HB.out).mono ?_; rintro e w17 ⟨_, rfl, rfl, hb⟩; replace HROW := Lib.hid (row_call hb HROW.out); replace HC5 := Lib.hid (row_call hb HC5.out); replace HB := Lib.hid (below_call hb HB.out); clear hb; clear hT; have hT := conf_cells HROW.out (Below.refl _ _); clear hT5; have hT5 := conf_cells HC5.out (Below.refl _ _))
                    exact ⟨rfl, .bool true, by kernel_rfl, rfl, HB.out⟩
                  · have hb0 : (eF == 0) = false := by rw [beq_eq_false_iff_ne]; exact he
                    clear he
                    go_wp2_with fail
                    exact ⟨rfl, .bool true, by kernel_rfl, rfl, HB.out⟩
end Go.Proofs.YtmochmpamgfboabDoor
