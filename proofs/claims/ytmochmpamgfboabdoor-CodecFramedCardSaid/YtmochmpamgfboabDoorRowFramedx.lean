/- What is read has one form: plain facts for CodecOnce; CopyBytes of whatever memory holds; a cell's load taken first in a drawn region. trystref00.CopyRows; what a frame of rows is read as (plain facts for CodecFramed). Condition: lengths that memory can hold. The walk of CodecFramed. Condition: the program's variable errors.errorType is as its text lays it. The law CodecFramed of package trystlaw20: for every bucket and list of lists of bytes the call returns true, and each argument reads afterwards as it read before; and its card: the one listed variable (errors.errorType) tied to the program's text. No condition. -/
import Derived.Test.YtmochmpamgfboabDoorBackA
import Derived.Test.YtmochmpamgfboabDoorFrmx
import Derived.Deep.CutRange
import Derived.Deep.DeepCutAuto
import Derived.Deep.CutBlock
import Derived.Test.YtmochmpamgfboabDoorRows
import Derived.Test.YtmochmpamgfboabDoorElem2
import Derived.WalkKit
import Derived.ProofKit
import Derived.OpenShut
import Derived.ShutString
import Derived.ChangeOld
import Derived.Below
import Derived.Test.YtmochmpamgfboabDoorByt
import Derived.ChangeSlices
import Derived.SizedLaws
import Derived.ChangeArms
import Derived.Deep.Matrix
import Derived.Test.YtmochmpamgfboabDoorCards
import Derived.Test.YtmochmpamgfboabDoorTie
import Derived.ChangeSame
import Derived.ChangeVars
import Derived.JoinedOf
import Derived.RowKit
import Derived.RowKitTokens
import Derived.LaidLaws
import Derived.LaidHandle
import Derived.Stop.Joined
import Derived.SevenTiedAt
namespace Go.Proofs.YtmochmpamgfboabDoor
open Go.RowKit
theorem le4_num {l : List Int} (hl : l.length = 4) (hb : Byt l) : le4 (num l) = l := by
  match l, hl with
  | [x0, x1, x2, x3], _ =>
    have h0 := hb x0 (by simp); have h1 := hb x1 (by simp); have h2 := hb x2 (by simp); have h3 := hb x3 (by simp)
    simp only [num, le4]
    refine List.cons_eq_cons.2 ⟨by omega, List.cons_eq_cons.2 ⟨by omega, List.cons_eq_cons.2 ⟨by omega, List.cons_eq_cons.2 ⟨by omega, rfl⟩⟩⟩⟩
theorem four_step (b : List Int) (k : Nat) : (b.drop (4 * k)).take 4 ++ b.drop (4 * (k + 1)) = b.drop (4 * k) := by
  rw [show 4 * (k + 1) = 4 * k + 4 by omega, ← List.drop_drop]
  exact List.take_append_drop 4 _
theorem conf_num {b : List Int} (h : b.length = 24) (hb : Byt b) (k : Nat) (hk : k < 6) : le4 (numAt b k % 4294967296) = (b.drop (4 * k)).take 4 := by
  have h1 := numAt_bound h hb k hk
  rw [show numAt b k % 4294967296 = numAt b k by omega]
  exact le4_num (numAt_len h k hk) ((hb.drop (4 * k)).take 4)
theorem conf_once {b : List Int} (hb : Byt b) : ∃ (d0 d1 d2 d3 d4 d5 e : Int), parsed b = .tuple #[.agg #[.int .i64 d0, .int .i64 d1, .int .i64 d2, .int .i64 d3, .int .i64 d4, .int .i64 d5], .int .i64 e] ∧ (e = 0 → good d0 d1 d2 d3 d4 d5 = true ∧ confL d0 d1 d2 d3 d4 d5 = b) := by
  by_cases h : b.length = 24
  · by_cases hg : good (numAt b 0) (numAt b 1) (numAt b 2) (numAt b 3) (numAt b 4) (numAt b 5) = true
    · refine ⟨_, _, _, _, _, _, _, by rw [parsed, if_pos h, if_pos hg], fun _ => ⟨hg, ?_⟩⟩
      rw [confL, conf_num h hb 0 (by decide), conf_num h hb 1 (by decide), conf_num h hb 2 (by decide), conf_num h hb 3 (by decide), conf_num h hb 4 (by decide), conf_num h hb 5 (by decide),
        show ([] : List Int) = b.drop (4 * (5 + 1)) from (List.drop_of_length_le (by omega)).symm, four_step b 5, four_step b 4, four_step b 3, four_step b 2, four_step b 1, four_step b 0]
      rfl
    · exact ⟨_, _, _, _, _, _, _, by rw [parsed, if_pos h, if_neg hg], fun h0 => by omega⟩
  · exact ⟨_, _, _, _, _, _, _, by rw [parsed, if_neg h], fun h0 => by omega⟩
theorem talk_once {g : Bool} {n1 : Int} (b : List Int) (hg : g = true) (h1 : 0 ≤ n1) : ∃ d m e, talkP g n1 b = (d, m, e) ∧ d.length = 16 ∧ (e = 0 → talkQ g n1 d m = (b, 0)) := by
  by_cases h : (b.length : Int) = 16 + n1
  · refine ⟨_, _, _, talkP_ok hg h, by rw [List.length_take]; omega, fun _ => ?_⟩
    rw [talkQ, if_pos hg, if_pos (by rw [List.length_drop]; omega), List.take_append_drop]
  · exact ⟨_, _, _, talkP_len hg h, rfl, fun h0 => by omega⟩
theorem reply_once {g : Bool} {n1 : Int} (b : List Int) (hg : g = true) (h1 : 0 ≤ n1) : ∃ y m e, replyP g n1 b = (y, m, e) ∧ (e = 0 → replyQ g n1 y m = (b, 0)) := by
  by_cases h : (b.length : Int) = 1 + n1
  · obtain ⟨x, t, rfl⟩ : ∃ x t, b = x :: t := by
      cases b with
      | nil => simp at h; omega
      | cons x t => exact ⟨x, t, rfl⟩
    have hl : (t.length : Int) = n1 := by rw [List.length_cons] at h; omega
    by_cases hx : x = 1
    · refine ⟨true, t, 0, by rw [replyP, if_pos hg, if_pos h, if_pos (show nth (x :: t) 0 = 1 from hx)]; rfl, fun _ => ?_⟩
      rw [replyQ, if_pos hg, if_pos hl, if_pos rfl, hx]
    · by_cases hz : nth (x :: t) 0 = 0 ∧ zeros ((x :: t).drop 1)
      · refine ⟨false, t, 0, by rw [replyP, if_pos hg, if_pos h, if_neg (show ¬ nth (x :: t) 0 = 1 from hx), if_pos hz]; rfl, fun _ => ?_⟩
        rw [replyQ, if_pos hg, if_pos hl, if_neg (by decide)]
        have h0 : x = 0 := hz.1
        have h2 : zeros t := hz.2
        subst h0
        congr 1
        rw [List.replicate_succ]
        congr 1
        refine List.ext_getElem (by simp) fun i hi hi2 => ?_
        have h3 := h2 i hi2
        simp only [nth, List.getD_eq_getElem?_getD, List.getElem?_eq_getElem hi2, Option.getD_some] at h3
        simp [h3]
      · exact ⟨_, _, _, by rw [replyP, if_pos hg, if_pos h, if_neg (show ¬ nth (x :: t) 0 = 1 from hx), if_neg hz], fun h0 => by omega⟩
  · exact ⟨_, _, _, by rw [replyP, if_pos hg, if_neg h], fun h0 => by omega⟩
theorem dial_once {g : Bool} {n2 : Int} (b : List Int) (hb : Byt b) (hg : g = true) : ∃ k m e, dialP g n2 b = (k, m, e) ∧ (e = 0 → dialQ g n2 k m = (b, 0)) := by
  by_cases h : b.length = 92
  · by_cases h2 : num (b.take 4) < n2
    · refine ⟨_, _, _, by rw [dialP, if_pos hg, if_pos h, if_pos h2], fun _ => ?_⟩
      rw [dialQ, if_pos hg, if_pos ⟨(num4 hb).1, h2⟩, if_pos (by rw [List.length_drop]; omega), le4_num (by rw [List.length_take]; omega) (hb.take 4), List.take_append_drop]
    · exact ⟨_, _, _, by rw [dialP, if_pos hg, if_pos h, if_neg h2], fun h0 => by omega⟩
  · exact ⟨_, _, _, by rw [dialP, if_pos hg, if_neg h], fun h0 => by omega⟩
theorem rows_flat (b : List Int) : ∀ k, (rowsOf b k).flatten ++ b.drop (8 + 88 * k) = b.drop 8
  | 0 => by simp [rowsOf]
  | k + 1 => by
    rw [rowsOf_succ, List.flatten_append, List.append_assoc, ← rows_flat b k]
    congr 1
    simp only [List.flatten_cons, List.flatten_nil, List.append_nil]
    rw [show 8 + 88 * (k + 1) = 8 + 88 * k + 88 by omega, ← List.drop_drop]
    exact List.take_append_drop 88 _
theorem rowsOf_len {b : List Int} {m : Nat} (h : b.length = 8 + 88 * m) : ∀ l ∈ rowsOf b m, l.length = 88 := fun l hl => by
  obtain ⟨i, hi, rfl⟩ := List.mem_map.1 hl
  have := List.mem_range.1 hi
  rw [rowAt, List.length_take, List.length_drop]
  omega
theorem frame_once (b : List Int) (hb : Byt b) : ∃ k ls e, frameP b = (k, ls, e) ∧ (e = 0 → ∀ vs : List Row1, vs.map (·.2.2) = ls → frameQ k vs = (b, 0)) := by
  by_cases h : fok b
  · obtain ⟨h8, hq1, hq2, hm, hl⟩ := id h
    have hm4 := num4 (hb.drop 4)
    obtain ⟨m, hmm⟩ : ∃ m : Nat, (m : Int) = num ((b.drop 4).take 4) := ⟨(num ((b.drop 4).take 4)).toNat, by omega⟩
    refine ⟨_, _, _, frameP_ok h rfl hmm, fun _ vs hvs => ?_⟩
    have hbl : b.length = 8 + 88 * m := by rw [← hmm] at hl; omega
    have hvl : vs.length = m := by
      have := congrArg List.length hvs
      simpa [rowsOf] using this
    have h88 : ∀ r ∈ vs, r.2.2.length = 88 := fun r hr => rowsOf_len hbl _ (by rw [← hvs]; exact List.mem_map.2 ⟨r, hr, rfl⟩)
    rw [frameQ, if_pos ⟨hq1, hq2⟩, if_pos (by rw [hvl]; omega), if_pos h88, hvl, flat, hvs, hmm, le4_num (by rw [List.length_take]; omega) (hb.take 4), le4_num (by rw [List.length_take, List.length_drop]; omega) ((hb.drop 4).take 4)]
    have h9 := rows_flat b m
    rw [List.drop_of_length_le (by omega), List.append_nil] at h9
    rw [h9]
    congr 1
    rw [show b.drop 8 = (b.drop 4).drop 4 by rw [List.drop_drop], List.take_append_drop, List.take_append_drop]
  · exact ⟨_, _, _, frameP_bad h, fun h0 => by omega⟩
theorem check_ev (n0 n1 n2 n3 n4 n5 : Int) (w : World) : Calls Tryd.prog 9 #[.agg #[.int .i64 n0, .int .i64 n1, .int .i64 n2, .int .i64 n3, .int .i64 n4, .int .i64 n5]] w (Gives (· = .int .i64 (if good n0 n1 n2 n3 n4 n5 = true then 0 else 200)) w) := by
  by_cases h : good n0 n1 n2 n3 n4 n5 = true
  · rw [if_pos h]; exact check_yes h w
  · rw [if_neg h]; exact check_no h w
theorem parseConfig_ev (p : Option Addr) (l : List Int) (n c : Nat) (w : World) (hn : l.length = n) (hb : Byt l) (h : BytesIn w p l) : Calls Tryd.prog 19 #[.slice p n c] w (Gives (· = parsed l) w) := by
  by_cases h24 : n = 24
  · subst h24
    exact parseConfig_24 p l c w hn hb h
  · exact parseConfig_short p l n c w hn h24
theorem yieldsIf_cell {P : Program} {ops : Array Oper} {S : World → Prop} {op : Oper} {a : Act} (hw : Region.wanted op (yielded ops a.tmps) = true) (ty : TypeId) (x : Operand) (ho : op.op = .load ty x)
    (ad : Addr) (hx : a.eval x = .pointer (some ad)) (v : Value) (hS : ∀ w, S w → w.cell? ad = some v) (hT : CellT P ty) : YieldsIf P ops S op v a := by
  refine .inl ⟨hw, fun w hw' => ?_⟩
  unfold execOp; rw [ho]
  show ((do let z ← Instr.loadAt ty (a.eval x); pure (Next.value z)) : Sem Next).run P w = _
  rw [hx, Sem.run_bind, run_load_cell hT (hS w hw')]
  rfl
theorem eq_own2 {p q : Option Addr} {n c c' : Nat} {w : World} {l : List Int} (hn : l.length = n) (h1 : BytesIn w p l) (h2 : BytesIn w q l) (hm : n ≤ 140737488355328) : Calls Tryd.prog 24 #[.slice p n c, .slice q n c'] w (Gives (· = .bool true) w) :=
  (eqBytes_any p q l l n n c c' w hn hn h1 h2 (by omega)).mono fun _ _ ⟨r, e1, e2, e3⟩ => ⟨r, e1, e2.trans (by rw [decide_eq_true rfl]), e3⟩
set_option maxHeartbeats 4000000 in
set_option maxRecDepth 100000 in
theorem copyW_any (p : Option Addr) (l : List Int) (n c : Nat) (w : World) (hn : l.length = n) (h : BytesIn w p l) (hm : n ≤ 140737488355328) :
    Calls Tryd.prog 15 #[.slice p n c] w (NewV w l) := by
  have hmk : ∀ u : World, (Instr.makeSlice 28 (.int .i64 0) (.int .i64 (n : Int))).run Tryd.prog u = .ok (.slice (some ⟨u.heap.size, 0, none⟩) 0 n) (u.alloc (.cells (vals (List.replicate n 0)) 5)) := fun u => run_make_bts u 0 n (Nat.zero_le _) (by omega)
  have H := Lib.hid h
  have HN := Lib.hid hn
  have HB0 := Lib.hid ((Below.refl w.heap.size w).alloc (Nat.le_refl _) (.cells (vals (List.replicate n 0)) 5))
  have HBT0 := Lib.hid (show Bts (w.alloc (.cells (vals (List.replicate n 0)) 5)) w.heap.size (.slice (some ⟨w.heap.size, 0, none⟩) 0 n) [] from Bts.row (l := []) (heap_alloc_new w _) (Nat.le_refl _) (Nat.zero_le _) (by simp only [maxLen]; omega) (by simp [vals_size]) rfl)
  clear h hn
  go_enter Tryd.func15, Tryd.ntmps15
  go_wp2
  go_loopw [3, 4] (fun v i wr => ∃ k, k ≤ n ∧ i = .int .i64 (k : Nat) ∧ Bts wr w.heap.size v (l.take k) ∧ Below w.heap.size w wr) (fun _ i _ => n - (intOf i).toNat)
  case atStart => exact ⟨0, by omega, rfl, HBT0.out, HB0.out⟩
  case round =>
    clear HB0 HBT0
    obtain ⟨k, hk, rfl, hbt, hb⟩ := hrel
    have HB := Lib.hid hb
    have HBT := Lib.hid hbt
    clear hb hbt
    by_cases hlt : k < n
    · obtain ⟨a2, rfl, _, x1⟩ := H.out.under HB.out (Nat.le_refl _) k (by rw [HN.out]; exact hlt)
      have HT := Lib.hid (take_bytes l k (by rw [HN.out]; exact hlt))
      have HLE := Lib.hid (show (l.take k).length + 1 ≤ 140737488355328 by
        rw [List.length_take]
        omega)
      generalize nth l k = x at x1 HT
      go_wp2_with (at_builtin; (refine held_append _ _ rfl ?_))
      refine wpList_app1 _ _ rfl rfl rfl rfl HB.out HBT.out HLE.out fun v' w' h1 h2 _ _ => ?_
      rw [HT.out] at h1
      have H1 := Lib.hid h1
      have H2 := Lib.hid h2
      clear h1 h2
      go_wp2
      go_roundw
      case rel => exact ⟨k + 1, by omega, by go_num, H1.out, H2.out⟩
      case measure => simp [intOf]; omega
    · obtain rfl : k = n := by omega
      have HBT1 := Lib.hid (show Bts wr w.heap.size u3 l by have := HBT.out; rwa [List.take_of_length_le (Nat.le_of_eq HN.out)] at this)
      go_wp2
      exact ⟨rfl, u3, by kernel_rfl, HB.out, _, rfl, HBT1.out⟩
/-- What a call hands back: slices of bytes of its own, each in a block of its own. -/
def NewF (w : World) (ls : List (List Int)) (e : Ending) (w' : World) : Prop := Below w.heap.size w w' ∧ ∃ v vs, e = .returned v ∧ FrV w' w.heap.size v vs ∧ vs.map (·.2.2) = ls
/-- A slice just made by a call, appended: what wpList_appF asks of it. -/
theorem FrV.push {w w' : World} {B : Nat} {v : Value} {vs : List Row1} {p : Option Addr} {c : Nat} {l : List Int} (h : FrV w B v vs) (hb : Below w.heap.size w w') (hB : B ≤ w.heap.size) (hv : Bts w' w.heap.size (.slice p l.length c) l) :
    FrV w' B v vs ∧ Bts w' B (rowV (p, c, l)) l ∧ El1 w' (p, c, l) ∧ (∀ a, p = some a → some a.block ≠ v.ownBlock) ∧ ∀ s ∈ vs, pb s.1 = none ∨ pb s.1 ≠ pb p := by
  have hlt := h.1.lt
  have hel : El1 w' (p, c, l) := by
    obtain ⟨p', c', e, h1, _⟩ := hv.el
    injection e with e1 e2 e3
    subst e1; subst e3
    exact h1
  refine ⟨h.under hb, hv.low hB, hel, fun a ha e => ?_, fun s hs => ?_⟩
  · have h3 := (hv.lt a.block (by subst ha; rfl)).1
    have h4 := (hlt _ e.symm).2
    omega
  · cases e : s.1 with
    | none => exact .inl rfl
    | some a =>
      refine .inr fun e2 => ?_
      have h3 := (h.1.2 s hs).1.2.2 a e
      have h4 := (hv.lt a.block ((pb_own p _ _).trans e2.symm)).1
      omega
set_option maxHeartbeats 4000000 in
set_option maxRecDepth 100000 in
theorem copyRows_any (p : Option Addr) (n c : Nat) (vs : List Row1) (w : World) (hn : vs.length = n) (h : RowsIn w p vs) (hm : n ≤ 4398046511104) (hl : ∀ r ∈ vs, r.2.2.length ≤ 140737488355328) :
    Calls Tryd.prog 13 #[.slice p n c] w (NewF w (vs.map (·.2.2))) := by
  have H := Lib.hid h
  have HN := Lib.hid hn
  have HL := Lib.hid hl
  clear h hn hl
  go_enter Tryd.func13, Tryd.ntmps13
  go_wp2
  go_loopw [3, 4] (fun v i wr => ∃ k, k ≤ n ∧ i = .int .i64 (k : Nat) ∧ Below w.heap.size w wr ∧ ∃ us, FrV wr w.heap.size v us ∧ us.map (·.2.2) = (vs.take k).map (·.2.2)) (fun _ i _ => n - (intOf i).toNat)
  case atStart => exact ⟨0, by omega, rfl, Below.refl _ _, [], frv_nil _ _, rfl⟩
  case round =>
    obtain ⟨k, hk, rfl, hb, us, hf, hus⟩ := hrel
    have HB := Lib.hid hb
    have HF := Lib.hid hf
    have HUS := Lib.hid hus
    have HKL := Lib.hid (show us.length = k by
      have h1 := congrArg List.length hus
      simp only [List.length_map, List.length_take] at h1
      rw [h1, HN.out]
      omega)
    clear hb hf hus
    by_cases hlt : k < n
    · obtain ⟨r, hr⟩ : ∃ r, vs[k]? = some r := ⟨_, List.getElem?_eq_getElem (by rw [HN.out]; exact hlt)⟩
      have hr0 := H.out.under HB.out (Nat.le_refl _)
      obtain ⟨ad, rfl, ha, hc⟩ := hr0.1 k r hr
      have HR := Lib.hid (hr0.2 r (List.mem_of_getElem? hr)).1
      have HTK := Lib.hid (show (vs.take (k + 1)).map (·.2.2) = (vs.take k).map (·.2.2) ++ [r.2.2] by
        rw [List.take_add_one, hr]
        simp)
      have HLR := Lib.hid (HL.out r (List.mem_of_getElem? hr))
      clear hr hr0
      obtain ⟨rp, rc, rl⟩ := r
      simp only at HR hc HTK HLR
      generalize hrn : rl.length = rn at hc HLR
      have HRN := Lib.hid hrn
      clear hrn
      go_wp2_with first
        | (go_at_call 15; refine (copyW_any rp rl rn rc _ HRN.out HR.out HLR.out).mono ?_; rintro e w5 ⟨hb, v5, rfl, hv⟩; obtain ⟨p5, c5, rfl, _⟩ := hv.open; have HB5 := Lib.hid hb; have HV5 := Lib.hid hv; clear hb hv)
        | (at_builtin; (refine held_append _ _ rfl ?_))
      obtain ⟨f1, f2, f3, f4, f5⟩ := HF.out.push HB5.out HB.out.size HV5.out
      refine wpList_appF (p5, c5, rl) _ _ rfl rfl rfl rfl (Nat.le_trans HB.out.size HB5.out.size) f1 f2 f3 f4 f5 (by rw [HKL.out]; omega) fun v' w' h1 h2 => ?_
      have H1 := Lib.hid h1
      have H2 := Lib.hid ((below_call HB5.out HB.out).grown h2 (Nat.le_trans HB.out.size HB5.out.size) fun x hx => (HF.out.1.lt x hx).1)
      clear h1 h2 f1 f2 f3 f4 f5 hc ha
      go_wp2
      go_roundw
      case rel => exact ⟨k + 1, by omega, by go_num, H2.out, _, H1.out, by rw [List.map_append, HUS.out, HTK.out]; rfl⟩
      case measure => simp [intOf]; omega
    · obtain rfl : k = n := by omega
      have HTK := Lib.hid (show (vs.take k) = vs from List.take_of_length_le (Nat.le_of_eq HN.out))
      go_wp2
      exact ⟨rfl, u3, by kernel_rfl, HB.out, _, us, rfl, HF.out, by rw [HUS.out, HTK.out]⟩
/-- What is framed is read again. -/
def framed (k : Int) (ls : List (List Int)) : List Int := le4 k ++ (le4 ls.length ++ ls.flatten)
theorem flat_len88 : ∀ (ls : List (List Int)), (∀ l ∈ ls, l.length = 88) → ls.flatten.length = 88 * ls.length
  | [], _ => rfl
  | l :: r, h => by
    rw [List.flatten_cons, List.length_append, flat_len88 r (fun x hx => h x (List.mem_cons_of_mem _ hx)), h l (List.mem_cons_self ..), List.length_cons]
    omega
theorem framed_len {k : Int} {ls : List (List Int)} (h : ∀ l ∈ ls, l.length = 88) : (framed k ls).length = 8 + 88 * ls.length := by
  rw [framed, List.length_append, List.length_append, le4_len, le4_len, flat_len88 ls h]
  omega
theorem framed_byt {k : Int} {ls : List (List Int)} (h : ∀ l ∈ ls, Byt l) : Byt (framed k ls) := fun x hx => by
  rcases List.mem_append.1 hx with h1 | h1
  · exact le4_byt _ x h1
  · rcases List.mem_append.1 h1 with h2 | h2
    · exact le4_byt _ x h2
    · obtain ⟨l, hl, hx2⟩ := List.mem_flatten.1 h2
      exact h l hl x hx2
theorem framed_take4 (k : Int) (ls : List (List Int)) (t : List Int) : (framed k ls ++ t).take 4 = le4 k := by
  rw [framed, List.append_assoc]
  exact List.take_left' (le4_len k)
theorem framed_drop4 (k : Int) (ls : List (List Int)) (t : List Int) : ((framed k ls ++ t).drop 4).take 4 = le4 ls.length := by
  rw [framed, List.append_assoc, List.drop_left' (le4_len k), List.append_assoc]
  exact List.take_left' (le4_len _)
theorem rows_of_flat : ∀ (ls : List (List Int)) (i : Nat) (hi : i < ls.length), (∀ l ∈ ls, l.length = 88) → (ls.flatten.drop (88 * i)).take 88 = ls[i]
  | l :: r, 0, _, h => by
    rw [Nat.mul_zero, List.drop_zero, List.flatten_cons]
    exact List.take_left' (h l (List.mem_cons_self ..))
  | l :: r, i + 1, hi, h => by
    have hl := h l (List.mem_cons_self ..)
    rw [List.flatten_cons, show 88 * (i + 1) = 88 + 88 * i by omega, ← List.drop_drop, List.drop_left' hl]
    exact rows_of_flat r i (by simpa using hi) fun x hx => h x (List.mem_cons_of_mem _ hx)
theorem framed_back {k : Int} {ls : List (List Int)} (h0 : 1 ≤ k) (h1 : k < 64) (hn : ls.length ≤ 256) (h : ∀ l ∈ ls, l.length = 88) : frameP (framed k ls) = (k, ls, 0) := by
  have t4 := framed_take4 k ls []
  have d4 := framed_drop4 k ls []
  rw [List.append_nil] at t4 d4
  have nk : num ((framed k ls).take 4) = k := by rw [t4, num_le4 (by omega) (by omega)]
  have nn : num (((framed k ls).drop 4).take 4) = (ls.length : Int) := by rw [d4, num_le4 (by omega) (by omega)]
  have hl := framed_len (k := k) h
  rw [frameP_ok (show fok (framed k ls) from ⟨by omega, by omega, by omega, by omega, by rw [nn, hl]; omega⟩) nk.symm nn.symm]
  congr 2
  refine List.ext_getElem (by simp [rowsOf]) fun i hi hi2 => ?_
  simp only [rowsOf, List.getElem_map, List.getElem_range, rowAt]
  rw [← rows_of_flat ls i hi2 h, ← List.drop_drop]
  congr 2
theorem framed_short {k : Int} {ls : List (List Int)} (hn : ls.length ≤ 256) (h : ∀ l ∈ ls, l.length = 88) : frameP ((framed k ls).take (8 + 88 * ls.length - 1)) = (0, [], 202) := by
  have d4 := framed_drop4 k ls []
  rw [List.append_nil] at d4
  have hl := framed_len (k := k) h
  refine frameP_bad fun hf => ?_
  obtain ⟨h8, _, _, _, h5⟩ := hf
  rw [List.length_take, hl] at h8 h5
  have : (((framed k ls).take (8 + 88 * ls.length - 1)).drop 4).take 4 = ((framed k ls).drop 4).take 4 := by
    rw [List.drop_take, List.take_take]
    congr 1
    omega
  rw [this, d4, num_le4 (by omega) (by omega)] at h5
  omega
theorem framed_long {k : Int} {ls : List (List Int)} (hn : ls.length ≤ 256) (h : ∀ l ∈ ls, l.length = 88) : frameP (framed k ls ++ [0]) = (0, [], 202) := by
  have d4 := framed_drop4 k ls [0]
  have hl := framed_len (k := k) h
  refine frameP_bad fun hf => ?_
  obtain ⟨_, _, _, _, h5⟩ := hf
  rw [d4, num_le4 (by omega) (by omega), List.length_append, hl] at h5
  simp at h5
  omega
theorem frameQ_yes {k : Int} {vs : List Row1} {ls : List (List Int)} (hv : vs.map (·.2.2) = ls) (h0 : 1 ≤ k) (h1 : k < 64) (hn : ls.length ≤ 256) (h : ∀ l ∈ ls, l.length = 88) : frameQ k vs = (framed k ls, 0) := by
  have hl : vs.length = ls.length := by rw [← hv, List.length_map]
  rw [frameQ, if_pos ⟨h0, h1⟩, if_pos (by omega), if_pos fun r hr => h _ (by rw [← hv]; exact List.mem_map.2 ⟨r, hr, rfl⟩), hl, flat, hv]
  rfl
theorem frameQ_no {k : Int} {vs : List Row1} (h : ¬ (1 ≤ k ∧ k < 64)) : frameQ k vs = ([], 201) := by rw [frameQ, if_neg h]
theorem rows_nil {vs : List Row1} (h : vs.map (·.2.2) = []) : vs = [] := List.map_eq_nil_iff.1 h
set_option maxHeartbeats 16000000 in
set_option maxRecDepth 100000 in
theorem codecFramed_any (k : Int) (p : Option Addr) (n c : Nat) (vs : List Row1) (w : World) (hh : Handle w) (hn : vs.length = n) (h : RowsIn w p vs) (hby : ∀ r ∈ vs, Byt r.2.2) (hl : ∀ r ∈ vs, r.2.2.length ≤ 140737488355328) :
    Calls Tryd.prog 4 #[.int .i64 k, .slice p n c] w (fun e w' => e = .returned (.bool true) ∧ Below w.heap.size w w') := by
  have HH := Lib.hid hh
  have H := Lib.hid h
  have HN := Lib.hid hn
  have HL := Lib.hid hl
  have HBY := Lib.hid hby
  have HSZ := Lib.hid (show ∀ w' p l m c, l.length = m → BytesIn w' p l → m ≤ 140737488355328 → Calls Tryd.prog 11 #[.slice p m c, .int .i64 88] w' (NewV w' (sizedL l 88)) from fun w' p l m c h1 h2 h3 => sized_any p l m c 88 w' h1 h2 (by decide) h3)
  clear hh h hn hl hby
  go_enter Tryd.func4, Tryd.ntmps4
  go_upto_block 0 with (go_at_call 8; refine (awake_ev _).mono ?_; rintro e w1 ⟨_, rfl, rfl, hb⟩; have HB := Lib.hid hb; clear hb)
  go_cut [5] (fun v5 wc => Below w.heap.size w wc ∧ ∃ m us, m ≤ n ∧ m ≤ 256 ∧ FrV wc w.heap.size v5 us ∧ us.map (·.2.2) = (vs.take m).map fun r => sizedL r.2.2 88)
  case first =>
    go_wp2_with fail
    go_loopw [6, 5] (fun i v wr => ∃ m, m ≤ n ∧ m ≤ 256 ∧ i = .int .i64 (m : Nat) ∧ Below w.heap.size w wr ∧ ∃ us, FrV wr w.heap.size v us ∧ us.map (·.2.2) = (vs.take m).map fun r => sizedL r.2.2 88) (fun i _ _ => n - (intOf i).toNat)
    case atStart => exact ⟨0, by omega, by omega, rfl, HB.out, [], frv_nil _ _, rfl⟩
    case round =>
      clear HB
      obtain ⟨m, hm, hm2, rfl, hb, us, hf, hus⟩ := hrel
      have HB := Lib.hid hb
      have HF := Lib.hid hf
      have HUS := Lib.hid hus
      have HKL := Lib.hid (show us.length = m by
        have h1 := congrArg List.length hus
        simp only [List.length_map, List.length_take] at h1
        rw [h1, HN.out]
        omega)
      clear hb hf hus
      by_cases hlt : m < n
      · by_cases hlt2 : m < 256
        · obtain ⟨r, hr⟩ : ∃ r, vs[m]? = some r := ⟨_, List.getElem?_eq_getElem (by rw [HN.out]; exact hlt)⟩
          have hr0 := H.out.under HB.out (Nat.le_refl _)
          obtain ⟨ad, rfl, ha, hc⟩ := hr0.1 m r hr
          have HR := Lib.hid (hr0.2 r (List.mem_of_getElem? hr)).1
          have HTK := Lib.hid (show ((vs.take (m + 1)).map fun r => sizedL r.2.2 88) = ((vs.take m).map fun r => sizedL r.2.2 88) ++ [sizedL r.2.2 88] by
            rw [List.take_add_one, hr]
            simp)
          have HLR := Lib.hid (HL.out r (List.mem_of_getElem? hr))
          clear hr hr0
          obtain ⟨rp, rc, rl⟩ := r
          simp only at HR hc HTK HLR
          generalize hrn : rl.length = rn at hc HLR
          have HRN := Lib.hid hrn
          clear hrn
          go_wp2_with first
            | (go_at_call 11; refine (HSZ.out _ rp rl rn rc HRN.out HR.out HLR.out).mono ?_; rintro e w5 ⟨hb, v5, rfl, hv⟩; obtain ⟨p5, c5, rfl, _⟩ := hv.open; have HB5 := Lib.hid hb; have HV5 := Lib.hid hv; clear hb hv)
            | (at_builtin; (refine held_append _ _ rfl ?_))
          obtain ⟨f1, f2, f3, f4, f5⟩ := HF.out.push HB5.out HB.out.size HV5.out
          refine wpList_appF (p5, c5, sizedL rl 88) _ _ rfl rfl rfl rfl (Nat.le_trans HB.out.size HB5.out.size) f1 f2 f3 f4 f5 (by rw [HKL.out]; omega) fun v' w' h1 h2 => ?_
          have H1 := Lib.hid h1
          have H2 := Lib.hid ((below_call HB5.out HB.out).grown h2 (Nat.le_trans HB.out.size HB5.out.size) fun x hx => (HF.out.1.lt x hx).1)
          clear h1 h2 f1 f2 f3 f4 f5 hc ha
          go_wp2_with fail
          go_roundw
          case rel => exact ⟨m + 1, by omega, by omega, by go_num, H2.out, _, H1.out, by rw [List.map_append, HUS.out, HTK.out]; rfl⟩
          case measure => simp [intOf]; omega
        · obtain rfl : m = 256 := by omega
          clear hlt2
          go_wp2_with fail
          go_meet
          case rel => exact ⟨HB.out, 256, us, hm, hm2, HF.out, HUS.out⟩
      · obtain rfl : m = n := by omega
        go_wp2_with fail
        go_meet
        case rel => exact ⟨HB.out, m, us, hm, hm2, HF.out, HUS.out⟩
  case rest =>
    obtain ⟨hb, m, us, hm, hm2, hf, hus⟩ := hcut
    clear HB
    have HB := Lib.hid hb
    obtain ⟨L, hL⟩ : ∃ L, L = (vs.take m).map fun r => sizedL r.2.2 88 := ⟨_, rfl⟩
    rw [← hL] at hus
    have h88 : ∀ l ∈ L, l.length = 88 := fun l hl => by
      rw [hL] at hl
      obtain ⟨r, _, rfl⟩ := List.mem_map.1 hl
      exact sizedL_len _ _
    have hbt : ∀ l ∈ L, Byt l := fun l hl => by
      rw [hL] at hl
      obtain ⟨r, hr, rfl⟩ := List.mem_map.1 hl
      exact sizedL_byt (HBY.out r (List.mem_of_mem_take hr)) _
    have hln : L.length ≤ 256 := by
      rw [hL, List.length_map, List.length_take]
      omega
    have hul : us.length = L.length := by rw [← hus, List.length_map]
    obtain ⟨p5, c5, rfl, hri, hp5⟩ := hf.1.open
    have hrl : ∀ r ∈ us, r.2.2.length ≤ 140737488355328 := fun r hr => by
      rw [h88 _ (by rw [← hus]; exact List.mem_map.2 ⟨r, hr, rfl⟩)]
      decide
    have HUS := Lib.hid hus
    have HRI := Lib.hid hri
    have HRL := Lib.hid hrl
    have HUL := Lib.hid hul
    rw [hul]
    have HCR := Lib.hid (show ∀ w', BytesIn w' none [] → RowsIn w' p5 us → Calls Tryd.prog 13 #[.slice p5 L.length c5] w' (NewF w' L) from fun w' _ h => by
      have h1 := copyRows_any p5 L.length c5 us w' hul h (by omega) hrl
      rwa [hus] at h1)
    have HFL := Lib.hid (show (framed k L).length = 8 + 88 * L.length from framed_len h88)
    have HFB := Lib.hid (framed_byt (k := k) hbt)
    by_cases hk : 1 ≤ k ∧ k < 64
    · have HFR := Lib.hid (show ∀ w' p c us', us'.map (·.2.2) = L → RowsIn w' p us' → Below w.heap.size w w' → Calls Tryd.prog 12 #[.int .i64 k, .slice p L.length c] w' (Ans w' (framed k L) 0) from fun w' p c us' h1 h2 h3 => by
        have h4 := frame_any k p L.length c us' w' (HH.out.keep h3) (by rw [← h1, List.length_map]) h2
        rwa [frameQ_yes h1 hk.1 hk.2 hln h88] at h4)
      have HP1 := Lib.hid (show ∀ w' p c, BytesIn w' p (framed k L) → (p = none → c = 0) → Calls Tryd.prog 14 #[.slice p (8 + 88 * L.length) c] w' (AnsR w' k L 0) from fun w' p c h1 h2 => by
        have h4 := parseFrame_any p (8 + 88 * L.length) c (framed k L) w' HFL.out HFB.out h1 h2 (by omega)
        rwa [framed_back hk.1 hk.2 hln h88] at h4)
      have HL2 := Lib.hid (show ((framed k L).take (7 + 88 * L.length)).length = 7 + 88 * L.length by rw [List.length_take, HFL.out]; omega)
      have HP2 := Lib.hid (show ∀ w' p c, BytesIn w' p ((framed k L).take (7 + 88 * L.length)) → (p = none → c = 0) → Calls Tryd.prog 14 #[.slice p (7 + 88 * L.length) c] w' (AnsR w' 0 [] 202) from fun w' p c h1 h2 => by
        have h4 := parseFrame_any p (7 + 88 * L.length) c ((framed k L).take (7 + 88 * L.length)) w' HL2.out (HFB.out.take _) h1 h2 (by omega)
        have h5 := framed_short (k := k) hln h88
        rw [show 8 + 88 * L.length - 1 = 7 + 88 * L.length by omega] at h5
        rwa [h5] at h4)
      have HL3 := Lib.hid (show (framed k L ++ [0]).length = 8 + 88 * L.length + 1 by rw [List.length_append, HFL.out]; rfl)
      have HP3 := Lib.hid (show ∀ w' p c, BytesIn w' p (framed k L ++ [0]) → (p = none → c = 0) → Calls Tryd.prog 14 #[.slice p (8 + 88 * L.length + 1) c] w' (AnsR w' 0 [] 202) from fun w' p c h1 h2 => by
        have h4 := parseFrame_any p (8 + 88 * L.length + 1) c (framed k L ++ [0]) w' HL3.out (fun x hx => by
          rcases List.mem_append.1 hx with h | h
          · exact HFB.out x h
          · rw [List.mem_singleton.1 h]; decide) h1 h2 (by omega)
        rwa [framed_long hln h88] at h4)
      have hk0 : ¬ k < 1 := by omega
      have hk1 : ¬ 64 ≤ k := by omega
      have hkb : (decide (k < 1) || decide (64 ≤ k)) = false := by rw [decide_eq_false hk0, decide_eq_false hk1]; rfl
      have HLN := Lib.hid hln
      clear hb hm hm2 hf hus hri hrl h88 hbt hul hp5 hL hk
      generalize hN : L.length = N at *
      have HNN := Lib.hid hN
      clear hN
      have T1 : True := trivial
      have T2 : True := trivial
      have T3 : True := trivial
      have T4 : True := trivial
      go_wp2_with first
        | (go_at_call 13; refine (HCR.out _ (bytesIn_nil _ _) HRI.out).mono ?_; rintro e w2 ⟨hb, v2, us2, rfl, hf2, hus2⟩; obtain ⟨p2, c2, rfl, hri2, _⟩ := hf2.1.open; rw [show us2.length = N by rw [← HNN.out, ← hus2, List.length_map]]; have HU2 := Lib.hid hus2; have HR2 := Lib.hid hri2; clear hf2 hus2 hri2; replace HRI := Lib.hid (HRI.out.under hb (Nat.le_refl _)); replace HB := Lib.hid (below_call hb HB.out); clear hb)
        | (go_at_call 12; refine (HFR.out _ p2 c2 us2 HU2.out HR2.out HB.out).mono ?_; rintro e w3 ⟨hb, v3, rfl, hv3⟩; obtain ⟨p3, c3, rfl, hi3, hp3, ho3, hl3, hx3⟩ := hv3.open; clear ho3 hx3; rw [HFL.out] at hl3 ⊢; obtain ⟨a3, rfl⟩ : ∃ a, p3 = some a := by { obtain ⟨a, h1, _⟩ := hi3 0 (by rw [HFL.out]; omega); exact ⟨a, h1⟩ }; have BI3 := Lib.hid hi3; have HP3' := Lib.hid hp3; clear hi3 hp3 hv3; replace HRI := Lib.hid (HRI.out.under hb (Nat.le_refl _)); replace HB := Lib.hid (below_call hb HB.out); clear hb)
        | (go_at_call 15; refine ((fun (_ : True) => copyW_any _ (framed k L) (8 + 88 * N) c3 _ HFL.out BI3.out (by omega)) T1).mono ?_; rintro e w4 ⟨hb, v4, rfl, hv4⟩; obtain ⟨p4, c4, rfl, hi4, hp4, ho4⟩ := hv4.open; clear ho4; rw [HFL.out]; have BI4 := Lib.hid hi4; have HP4 := Lib.hid hp4; clear hi4 hp4 hv4; replace BI3 := Lib.hid (BI3.out.keep hb); replace HRI := Lib.hid (HRI.out.under hb (Nat.le_refl _)); replace HB := Lib.hid (below_call hb HB.out); clear hb T1)
        | (go_at_call 14; refine ((fun (_ : True) => HP1.out _ p4 c4 BI4.out HP4.out) T2).mono ?_; rintro e w5 ⟨hb, v5, us5, rfl, hf5, hus5⟩; obtain ⟨p6, c6, rfl, hri5, _⟩ := hf5.1.open; have HN5 := Lib.hid (show us5.length = N by rw [← HNN.out, ← hus5, List.length_map]); rw [HN5.out]; have HU5 := Lib.hid hus5; have HR5 := Lib.hid hri5; clear hf5 hus5 hri5; replace BI3 := Lib.hid (BI3.out.keep hb); replace HRI := Lib.hid (HRI.out.under hb (Nat.le_refl _)); replace HB := Lib.hid (below_call hb HB.out); clear hb T2)
        | (go_at_call 16; refine (eqRows_same p6 p5 N c6 c5 us5 us _ HN5.out (HUL.out) HR5.out HRI.out (by have := HLN.out; omega) (fun j r s h1 h2 => by
            have e1 := congrArg (fun l => l[j]?) (HU5.out.trans HUS.out.symm)
            simp only [List.getElem?_map, h1, h2, Option.map_some] at e1
            exact Option.some.inj e1) (fun r hr => by
            obtain ⟨j, hj, rfl⟩ := List.getElem_of_mem hr
            have e1 := congrArg (fun l => l[j]?) (HU5.out.trans HUS.out.symm)
            have hj2 : j < us.length := by rw [HUL.out, ← HN5.out]; exact hj
            simp only [List.getElem?_map, List.getElem?_eq_getElem hj, List.getElem?_eq_getElem hj2, Option.map_some] at e1
            rw [Option.some.inj e1]
            exact HRL.out _ (List.getElem_mem hj2))).mono ?_; rintro e w6 ⟨_, rfl, rfl, hb⟩; replace BI3 := Lib.hid (BI3.out.keep hb); replace HB := Lib.hid (below_call hb HB.out); clear hb)
        | (go_at_call 15; refine ((fun (_ : True) => copyW_any _ ((framed k L).take (7 + 88 * N)) (7 + 88 * N) c3 _ HL2.out (by have h1 := BI3.out.sub 0 (7 + 88 * N); rwa [List.drop_zero, show a3.add 0 = a3 by simp [Addr.add]] at h1) (by omega)) T3).mono ?_; rintro e w7 ⟨hb, v7, rfl, hv7⟩; obtain ⟨p7, c7, rfl, hi7, hp7, ho7⟩ := hv7.open; clear ho7; rw [HL2.out]; have BI7 := Lib.hid hi7; have HP7 := Lib.hid hp7; clear hi7 hp7 hv7; replace BI3 := Lib.hid (BI3.out.keep hb); replace HB := Lib.hid (below_call hb HB.out); clear hb T3)
        | (go_at_call 14; refine ((fun (_ : True) => HP2.out _ p7 c7 BI7.out HP7.out) T4).mono ?_; rintro e w8 ⟨hb, v8, us8, rfl, hf8, hus8⟩; obtain rfl := rows_nil hus8; obtain ⟨p8, c8, rfl, _, _⟩ := hf8.1.open; rw [List.length_nil]; clear hf8 hus8; replace BI3 := Lib.hid (BI3.out.keep hb); replace HB := Lib.hid (below_call hb HB.out); clear hb T4)
        | (go_at_call 17; refine (two_any (some a3) (some ⟨w8.heap.size, 0, none⟩) (framed k L) [0] (8 + 88 * N) 1 c3 1 _ HFL.out rfl (BI3.out.keep ((Below.refl _ _).alloc (Nat.le_refl _) _)) (bytesIn_one w8 0) (fun h => by cases h) (fun h => by cases h) (by omega)).mono ?_; rintro e w9 ⟨hb, v9, rfl, hv9⟩; replace hb := below_call hb ((Below.refl w8.heap.size w8).alloc (Nat.le_refl _) _); obtain ⟨p9, c9, rfl, hi9, hp9, ho9⟩ := hv9.open; clear ho9; rw [HL3.out]; have BI9 := Lib.hid hi9; have HP9 := Lib.hid hp9; clear hi9 hp9 hv9; replace HB := Lib.hid (below_call hb HB.out); clear hb)
        | (go_at_call 14; refine (HP3.out _ p9 c9 BI9.out HP9.out).mono ?_; rintro e w10 ⟨hb, v10, us10, rfl, hf10, hus10⟩; obtain rfl := rows_nil hus10; obtain ⟨p10, c10, rfl, _, _⟩ := hf10.1.open; rw [List.length_nil]; clear hf10 hus10; replace HB := Lib.hid (below_call hb HB.out); clear hb)
      exact ⟨rfl, .bool true, by kernel_rfl, rfl, HB.out⟩
    · have HFR := Lib.hid (show ∀ w' p c us', us'.map (·.2.2) = L → RowsIn w' p us' → Below w.heap.size w w' → Calls Tryd.prog 12 #[.int .i64 k, .slice p L.length c] w' (Ans w' [] 201) from fun w' p c us' h1 h2 h3 => by
        have h4 := frame_any k p L.length c us' w' (HH.out.keep h3) (by rw [← h1, List.length_map]) h2
        rwa [frameQ_no hk] at h4)
      clear hb hm hm2 hf hus hri hrl h88 hbt hul hp5 hL hln
      generalize hN : L.length = N at *
      have HNN := Lib.hid hN
      clear hN
      by_cases hk0 : k < 1
      · clear hk
        have hkb : (decide (k < 1) || decide (64 ≤ k)) = true := by rw [decide_eq_true hk0]; rfl
        go_wp2_with first
          | (go_at_call 13; refine (HCR.out _ (bytesIn_nil _ _) HRI.out).mono ?_; rintro e w2 ⟨hb, v2, us2, rfl, hf2, hus2⟩; obtain ⟨p2, c2, rfl, hri2, _⟩ := hf2.1.open; rw [show us2.length = N by rw [← HNN.out, ← hus2, List.length_map]]; have HU2 := Lib.hid hus2; have HR2 := Lib.hid hri2; clear hf2 hus2 hri2; replace HRI := Lib.hid (HRI.out.under hb (Nat.le_refl _)); replace HB := Lib.hid (below_call hb HB.out); clear hb)
          | (go_at_call 12; refine (HFR.out _ p2 c2 us2 HU2.out HR2.out HB.out).mono ?_; rintro e w3 ⟨hb, v3, rfl, hv3⟩; obtain ⟨p3, c3, rfl, _⟩ := hv3.open; rw [List.length_nil]; clear hv3; replace HB := Lib.hid (below_call hb HB.out); clear hb)
        exact ⟨rfl, .bool true, by kernel_rfl, rfl, HB.out⟩
      · have hk1 : 64 ≤ k := by omega
        clear hk
        have hkb : (decide (k < 1) || decide (64 ≤ k)) = true := by rw [decide_eq_true hk1, Bool.or_true]
        go_wp2_with first
          | (go_at_call 13; refine (HCR.out _ (bytesIn_nil _ _) HRI.out).mono ?_; rintro e w2 ⟨hb, v2, us2, rfl, hf2, hus2⟩; obtain ⟨p2, c2, rfl, hri2, _⟩ := hf2.1.open; rw [show us2.length = N by rw [← HNN.out, ← hus2, List.length_map]]; have HU2 := Lib.hid hus2; have HR2 := Lib.hid hri2; clear hf2 hus2 hri2; replace HRI := Lib.hid (HRI.out.under hb (Nat.le_refl _)); replace HB := Lib.hid (below_call hb HB.out); clear hb)
          | (go_at_call 12; refine (HFR.out _ p2 c2 us2 HU2.out HR2.out HB.out).mono ?_; rintro e w3 ⟨hb, v3, rfl, hv3⟩; obtain ⟨p3, c3, rfl, _⟩ := hv3.open; rw [List.length_nil]; clear hv3; replace HB := Lib.hid (below_call hb HB.out); clear hb)
        exact ⟨rfl, .bool true, by kernel_rfl, rfl, HB.out⟩
open Go.ChangeShapes Go.WideShapes Go.ChangeAt Go.RowKit

theorem own : ownKnob Tryd.prog.godebug = none := by kernel_rfl
theorem laidOut : laidOutB Tryd.prog = true := by kernel_rfl

theorem ints_of {k : IntKind} : ∀ (cs : List Value), (∀ c ∈ cs, ∃ n, c = .int k n ∧ (Lit.int k n).wf = true) → ∃ L : List Int, cs = L.map (Value.int k) ∧ L.length = cs.length ∧ ∀ n ∈ L, (Lit.int k n).wf = true
  | [], _ => ⟨[], rfl, rfl, fun n h => by cases h⟩
  | c :: r, h => by
    obtain ⟨n, rfl, hn⟩ := h c (by simp)
    obtain ⟨L, rfl, hl, hw⟩ := ints_of r (fun x hx => h x (by simp [hx]))
    refine ⟨n :: L, rfl, by simp, fun m hm => ?_⟩
    rw [List.mem_cons] at hm
    rcases hm with rfl | hm
    · exact hn
    · exact hw m hm

theorem open_row {H : Type} {enc : TypeId × Value → H} {P : Program} {W : World} {base : Nat} {spare : Nat → Bool} {held : Bool} {t e : TypeId} {n : Nat} {k : IntKind} {v : Value} {d : DataW H} {ps : List MemPlace}
    (ht : P.underlying t = some (.array n e)) (he : P.underlying e = some (.int k)) (hc : P.cellsOf t = n) (hce : P.cellsOf e = 1) (hn : 2 ≤ n) (h : DataW.Trod enc P W base spare held t v d ps) :
    ∃ L : List Int, v = .agg (valsK k L) ∧ L.length = n ∧ ∀ x ∈ L, (Lit.int k x).wf = true := by
  obtain ⟨fuel, hf⟩ := h
  obtain ⟨xs, m, rfl, hx, hl, hxl, hi⟩ := DataW.trod_array ht hf
  rw [hc] at hl
  obtain ⟨L, hL, hLl, hw⟩ := ints_of (k := k) v.cells.toList (fun c hcm => by
    obtain ⟨i, hi', rfl⟩ := List.getElem_of_mem hcm
    have h1 := hi i (by omega)
    rw [hce, Nat.mul_one] at h1
    have h2 : (v.cells.toList.drop i).take 1 = [v.cells.toList[i]] := by rw [List.drop_eq_getElem_cons hi']; rfl
    rw [h2, List.getElem?_eq_getElem (by omega)] at h1
    obtain ⟨q, hq, _, hqw⟩ := DataW.trod_int he h1
    exact ⟨q, by simpa using hq, hqw⟩)
  have hLn : L.length = n := hLl.trans hl
  refine ⟨L, ?_, hLn, hw⟩
  cases v with
  | agg cs =>
    show Value.agg cs = Value.agg (L.map (Value.int k)).toArray
    congr 1
    have h3 : cs.toList = L.map (Value.int k) := hL
    rw [← h3]
  | _ => exfalso; simp [Value.cells] at hl; omega

theorem byt_of_wf {L : List Int} (h : ∀ x ∈ L, (Lit.int .u8 x).wf = true) : Byt L := fun x hx => by have := bounds_u8 (h x hx); omega
open Go.ChangeShapes Go.WideShapes Go.ChangeAt Go.RowKit

section
variable {H : Type} {enc : TypeId × Value → H} {P : Program} {W : World}
theorem open_bytes {t e : TypeId} {p : Option Addr} {n c : Nat} {d : DataW H} {ps : List MemPlace} (ht : P.underlying t = some (.slice e)) (he : P.underlying e = some (.int .u8)) (hc : P.cellsOf e = 1) (h : DataW.Trod enc P W 0 (fun _ => true) true t (.slice p n c) d ps) :
    ∃ l : List Int, l.length = n ∧ Byt l ∧ BytesIn W p l ∧ n ≤ c ∧ (d = .nil ∧ n = 0 ∨ ∃ el sp, d = .slice el sp ∧ el.length = n) := by
  obtain ⟨fuel, hf⟩ := h
  rcases open_ints ht he hc hf with ⟨h0, hx⟩ | ⟨a, len, cap, zs, h0, hb, hl, hm, hz, hx, hcell, hw⟩
  · have e1 : Value.slice p n c = .slice none 0 0 := by simpa [Value.cells] using h0
    injection e1 with e1 e2 e3
    subst e1; subst e2; subst e3
    simp only [Prod.mk.injEq] at hx
    exact ⟨[], rfl, fun x hx => by simp at hx, fun i hi => by simp at hi, Nat.le_refl _, .inl ⟨hx.1, rfl⟩⟩
  · have e1 : Value.slice p n c = .slice (some a) len cap := by simpa [Value.cells] using h0
    injection e1 with e1 e2 e3
    subst e1; subst e2; subst e3
    simp only [Prod.mk.injEq] at hx
    simp only [if_true] at hz
    have hln : (zs.take n).length = n := by rw [List.length_take]; omega
    refine ⟨zs.take n, hln, fun x hx' => ?_, fun i hi => ?_, hl, .inr ⟨_, _, hx.1, by simp [lits]; omega⟩⟩
    · have := bounds_u8 (hw x (List.mem_of_mem_take hx'))
      omega
    · have hi' : i < n := by omega
      have hcl := hcell i (by omega)
      refine ⟨a, rfl, ?_, ?_⟩
      · have := World.block_lt_of_cell? W _ hcl
        rwa [add_block] at this
      · rw [hcl]
        congr 2
        simp only [nth, List.getD_eq_getElem?_getD]
        rw [List.getElem?_take, if_pos hi']
/-- How long it can be at the most. -/
theorem sized_bytes {ts : List TypeId} {ds : List (DataW H)} {t e : TypeId} {j n : Nat} {d : DataW H} (h : (DataW.weightsEach P ts ds).all (· ≤ reachBytes) = true) (ht : ts[j]? = some t) (hd : ds[j]? = some d) (hu : P.underlying t = some (.slice e)) (hb : P.bytesOf e = 1)
    (hs : d = .nil ∧ n = 0 ∨ ∃ el sp, d = .slice el sp ∧ el.length = n) : n ≤ 140737488355328 := by
  rcases hs with ⟨_, rfl⟩ | ⟨el, sp, rfl, rfl⟩
  · omega
  · have h1 := sized_slice h ht hd hu
    rw [hb, Nat.mul_one] at h1
    have h2 := reachBytes_lt
    omega
end
open Go.ChangeShapes Go.WideShapes Go.ChangeAt Go.RowKit
section
variable {H : Type} {enc : TypeId × Value → H} {P : Program} {W : World}
theorem weights_mem_all {e : TypeId} {d : DataW H} : ∀ {l : List (DataW H)}, d ∈ l → ∀ x, x ∈ d.weights P e → x ∈ DataW.weightsAll P e l
  | [], h, _, _ => by cases h
  | a :: r, h, x, hx => by
    rw [DataW.weightsAll]
    rcases List.mem_cons.1 h with rfl | h
    · exact List.mem_append_left _ hx
    · exact List.mem_append_right _ (weights_mem_all h x hx)
/-- A list of lists of bytes that comes in. -/
theorem open_lists {t e q : TypeId} {p : Option Addr} {n c : Nat} {d : DataW H} {ps : List MemPlace} (ht : P.underlying t = some (.slice e)) (he : P.underlying e = some (.slice q)) (hq : P.underlying q = some (.int .u8)) (ce : P.cellsOf e = 1) (cq : P.cellsOf q = 1)
    (h : DataW.Trod enc P W 0 (fun _ => true) true t (.slice p n c) d ps) :
    ∃ vs : List Row1, vs.length = n ∧ RowsIn W p vs ∧ (∀ r ∈ vs, Byt r.2.2) ∧ (p = none → c = 0) ∧ (d = .nil ∧ n = 0 ∨ ∃ el sp, d = .slice el sp ∧ el.length = n ∧ ∀ r ∈ vs, r.2.2 = [] ∨ ∃ x y, DataW.slice x y ∈ el ∧ x.length = r.2.2.length) := by
  obtain ⟨fuel, hf⟩ := h
  rcases Go.Deep.open_int_rows ht he hq ce cq hf with ⟨h0, hx⟩ | ⟨a, len, cap, A, L, C, Z, h0, hb, hl, hm, hx, hr⟩
  · have e1 : Value.slice p n c = .slice none 0 0 := by simpa [Value.cells] using h0
    injection e1 with e1 e2 e3
    subst e1; subst e2; subst e3
    simp only [Prod.mk.injEq] at hx
    exact ⟨[], rfl, ⟨fun k r hr => by simp at hr, fun r hr => by cases hr⟩, (fun r hr => by cases hr), fun _ => rfl, .inl ⟨hx.1, rfl⟩⟩
  · have e1 : Value.slice p n c = .slice (some a) len cap := by simpa [Value.cells] using h0
    injection e1 with e1 e2 e3
    subst e1; subst e2; subst e3
    simp only [Prod.mk.injEq] at hx
    refine ⟨(List.range n).map fun k => (A k, C k, (Z k).take (L k)), by simp, ⟨fun k r hk => ?_, fun r hk => ?_⟩, fun r hk => ?_, (fun h => by cases h), .inr ⟨_, _, hx.1, by simp, fun r hk => ?_⟩⟩
    · obtain ⟨hkn, rfl⟩ : k < n ∧ (A k, C k, (Z k).take (L k)) = r := by
        rw [List.getElem?_map] at hk
        obtain ⟨j, hj, rfl⟩ := Option.map_eq_some_iff.1 hk
        have h1 := List.getElem?_range (n := n) (i := k) (by have := (List.getElem?_eq_some_iff.1 hj).1; simpa using this)
        rw [h1] at hj
        injection hj with hj
        subst hj
        exact ⟨by have := (List.getElem?_eq_some_iff.1 h1).1; simpa using this, rfl⟩
      obtain ⟨hc, hLC, hCm, hZ, hw, hnn, hin⟩ := hr k (by omega)
      refine ⟨a, rfl, ?_, ?_⟩
      · have := World.block_lt_of_cell? W _ hc
        rwa [add_block] at this
      · rw [hc]
        simp only [List.length_take, hZ, Nat.min_eq_left hLC]
    · obtain ⟨k, hkn, rfl⟩ := List.mem_map.1 hk
      have hkn := List.mem_range.1 hkn
      obtain ⟨hc, hLC, hCm, hZ, hw, hnn, hin⟩ := hr k (by omega)
      refine ⟨fun i hi => ?_, hnn⟩
      simp only [List.length_take, hZ, Nat.min_eq_left hLC] at hi
      show ∃ ad, A k = some ad ∧ _
      cases hA : A k with
      | none => rw [hnn hA] at hLC; omega
      | some a' =>
        have hcl := (hin a' hA).2 i (by omega)
        refine ⟨a', rfl, ?_, ?_⟩
        · have := World.block_lt_of_cell? W _ hcl
          rwa [add_block] at this
        · rw [hcl]
          congr 2
          simp only [nth, List.getD_eq_getElem?_getD]
          rw [List.getElem?_take, if_pos hi]
    · obtain ⟨k, hkn, rfl⟩ := List.mem_map.1 hk
      have hkn := List.mem_range.1 hkn
      obtain ⟨hc, hLC, hCm, hZ, hw, hnn, hin⟩ := hr k (by omega)
      intro x hx'
      have := bounds_u8 (hw x (List.mem_of_mem_take hx'))
      omega
    · obtain ⟨k, hkn, rfl⟩ := List.mem_map.1 hk
      have hkn' := List.mem_range.1 hkn
      obtain ⟨hc, hLC, hCm, hZ, hw, hnn, hin⟩ := hr k (by omega)
      cases hA : A k with
      | none =>
        refine .inl ?_
        have := hnn hA
        show (Z k).take (L k) = []
        rw [show L k = 0 by omega, List.take_zero]
      | some a' => exact .inr ⟨lits .u8 ((Z k).take (L k)), lits .u8 ((Z k).drop (L k)), List.mem_map.2 ⟨k, hkn, by rw [hA]; rfl⟩, by simp [lits]⟩
/-- How long they can be at the most. -/
theorem sized_lists {ts : List TypeId} {ds : List (DataW H)} {t e q : TypeId} {j : Nat} {el sp x y : List (DataW H)} (h : (DataW.weightsEach P ts ds).all (· ≤ reachBytes) = true) (ht : ts[j]? = some t) (hd : ds[j]? = some (.slice el sp)) (hu : P.underlying t = some (.slice e)) (he : P.underlying e = some (.slice q)) (hb : P.bytesOf q = 1)
    (hm : DataW.slice x y ∈ el) : x.length ≤ 140737488355328 := by
  have h1 := List.all_eq_true.1 h _ (DataW.weights_mem_each ht hd ((x.length + y.length) * P.bytesOf q) (by
    rw [DataW.weights, hu]
    refine List.mem_cons_of_mem _ (List.mem_append_left _ (weights_mem_all hm _ ?_))
    rw [DataW.weights, he]
    exact List.mem_cons_self ..))
  have h2 := reachBytes_lt
  simp only [decide_eq_true_eq, hb] at h1
  omega
end
open Go.ChangeShapes Go.WideShapes Go.ChangeAt Go.RowKit

theorem as_et : Tryd.prog.globalNamed "errors.errorType" = some 0 := by kernel_rfl
theorem as_rt : (Tryd.prog.cutTypes.find? (·.1 == "internal/reflectlite.rtype")).map (·.2) = some 112 := by kernel_rfl
theorem as_oneRow : ((List.range 153).filter fun t => Tryd.prog.rowNamed t [101, 114, 114, 111, 114]) = [83] := by kernel_rfl
theorem as_size : Tryd.prog.types.size = 153 := by kernel_rfl
/-- What the condition gives a walk: the variable's one cell. -/
theorem handle_of_laid {W : World} (h : laidMetH Tryd.prog Rows.codecFramedRow.laid W) : Handle W := by
  have h' : laidMet Tryd.prog [] W ∧ handlesMet Tryd.prog Rows.codecFramedRow.laid W := h
  obtain ⟨name, u, ty, e1, e2, e3, e4, e5⟩ := h'.2 _ (List.mem_singleton.2 rfl)
  have en : name = [101, 114, 114, 111, 114] := (Option.some.inj e1).symm
  subst en
  obtain rfl := Option.some.inj (as_rt.symm.trans e2)
  have hm : ty ∈ (List.range 153).filter fun t => Tryd.prog.rowNamed t [101, 114, 114, 111, 114] := List.mem_filter.2 ⟨List.mem_range.2 (by rw [← as_size]; exact e3), e4⟩
  rw [as_oneRow] at hm
  obtain rfl := List.mem_singleton.1 hm
  have hh : typeHandle Tryd.prog 83 = .pointer (some ⟨1, 83, none⟩) := by kernel_rfl
  rw [hh] at e5
  unfold Handle
  simpa using World.var?_cell as_et e5 0
/-- A world that meets the condition on the listed variable. -/
noncomputable def laidWorld (os : Os) : World :=
  let w0 := World.holding Tryd.prog os ⟨#[], #[], []⟩
  { w0 with heap := w0.heap.modify 0 fun
      | .cells _ t frozen => .cells #[.iface 112 (.agg #[.pointer (some ⟨1, 83, none⟩)])] t frozen
      | o => o }
theorem laidWorld_met (os : Os) (args : Array Value) : laidMetH Tryd.prog Rows.codecFramedRow.laid ((laidWorld os).forCall (fun _ _ => 0) ⟨#[], args, []⟩).memory :=
  laidMetH_of_parts (laidMet_nil _ _) (by kernel_rfl)

set_option maxRecDepth 100000 in
theorem codecFramed_lifted (os : Os) (started : os.Started) (H : Type) (enc : TypeId × Value → H) :
    ReturnsInHanded {} Tryd.checked os 4 .any (fun w args => (Rows.codecFramedSpec.pre enc Tryd.prog Tryd.f4 [] false w args ∧ laidMetH Tryd.prog Rows.codecFramedRow.laid w) ∧ sizedMet enc Tryd.prog Tryd.f4 (OpenSpec.ofChange Rows.codecFramedSpec) false w args)
      (Rows.codecFramedSpec.post enc Tryd.prog Tryd.f4 false true false false) := by
  refine returnsInHanded_of_change_and (C := Tryd.checked) (X := fun w _ => laidMetH Tryd.prog Rows.codecFramedRow.laid w) (fun _ _ _ hh h => h.of_heap hh) own started (by kernel_rfl) Tryd.func4
    (ChangeSpec.witness_at (enc := enc) (C := Tryd.checked) (os := os) (X := fun w _ => laidMetH Tryd.prog Rows.codecFramedRow.laid w) false (laidWorld os) #[.int .i64 0, .slice none 0 0] 8 rfl (by kernel_rfl) (by kernel_rfl) (by kernel_rfl) (by kernel_rfl) (by kernel_rfl) (laidWorld_met os _)) ?_
  intro W base args ds gs before hval0 hW _ hreach hL _
  have hval : ∀ (j : Nat) t v, Tryd.f4.params[j]? = some t → args[j]? = some v → Value.okWide Tryd.prog W .any base t v := hval0
  have hW' := hW
  obtain ⟨p, q, hA0, hV, rfl, hfz, hnd⟩ := hW
  have hA : DataW.TrodAll enc Tryd.prog W 0 (fun _ => true) true Tryd.f4.params.toList args.toList ds p := hA0
  rw [Tryd.params4] at hA hreach hval
  obtain ⟨v0, vs0, d0, ds0, p0, q0, hargs, rfl, rfl, h0, r0⟩ := trodAll_cons hA
  obtain ⟨v1, vs1, d1, ds1, p1, q1, rfl, rfl, rfl, h1, r1⟩ := trodAll_cons r0
  obtain ⟨rfl, rfl, rfl⟩ := trodAll_nil r1
  obtain rfl : args = #[v0, v1] := by cases args; simp_all
  obtain ⟨rfl, rfl⟩ := trodVars_none hV
  have k0 := h0
  have lt0 : ∀ x ∈ p0, x.block < W.heap.size := by obtain ⟨m, hm⟩ := k0; exact DataW.trod_lt m _ _ _ hm
  have k1 := h1
  have lt1 : ∀ x ∈ p1, x.block < W.heap.size := by obtain ⟨m, hm⟩ := k1; exact DataW.trod_lt m _ _ _ hm
  obtain ⟨k, rfl, rfl, rfl, w1⟩ := open_int Tryd.underlying3 (hval 0 3 v0 rfl rfl) h0
  obtain ⟨p, n, c, rfl⟩ := okWide_slice Tryd.underlying30 (hval 1 30 v1 rfl rfl)
  obtain ⟨vs, hn, hri, hby, hpc, hsz⟩ := open_lists Tryd.underlying30 Tryd.underlying28 Tryd.underlying5 (by kernel_rfl) (by kernel_rfl) h1
  have hl : ∀ r ∈ vs, r.2.2.length ≤ 140737488355328 := fun r hr => by
    rcases hsz with ⟨_, h0⟩ | ⟨el, sp, rfl, _, h2⟩
    · rw [h0] at hn
      rw [List.eq_nil_of_length_eq_zero hn] at hr
      cases hr
    · rcases h2 r hr with h3 | ⟨x, y, h3, h4⟩
      · rw [h3]; decide
      · rw [← h4]
        exact sized_lists hreach (j := 1) rfl rfl Tryd.underlying30 Tryd.underlying28 (by kernel_rfl) h3
  clear hA0 hval0
  have hw : Calls Tryd.prog 4 #[.int .i64 k, .slice p n c] W (fun e w' => e = .returned (.bool true) ∧ Below W.heap.size W w') :=
    codecFramed_any k p n c vs W (handle_of_laid hL) hn hri hby hl
  refine hw.mono fun e W' ⟨he, bel⟩ => ?_
  subst he
  exact ⟨_, rfl, _, _, _, [], _, [], hW', trodAll_mk1 (shut_bool Tryd.underlying4 _), (trodAll_cons_mk (Below.trod laidOut (by kernel_rfl) (of_decide_eq_true (by kernel_rfl)) k0 bel lt0) (trodAll_cons_mk (Below.trod laidOut (by kernel_rfl) (of_decide_eq_true (by kernel_rfl)) k1 bel lt1) trodAll_mk0)), rfl, bel.frame _, fun h => by cases h⟩

theorem codecFramed_row : Rows.CodecFramedSaid :=
  OpenClaim.holds_of_wide 4 Tryd.f4 rfl rfl rfl rfl rfl rfl rfl ⟨rfl, rfl, rfl, rfl, rfl⟩ rfl rfl rfl rfl rfl (by kernel_rfl) Tryd.func4 (by kernel_rfl)
    (of_decide_eq_true (by kernel_rfl)) (by unfold Func.isWrapper; first | (rw [if_pos (by decide +kernel)]; kernel_rfl) | (rw [if_neg (by decide +kernel)]; exact ⟨rfl, rfl⟩))
    (fun os started H enc _ => codecFramed_lifted os started H enc)

theorem codecFramed_holds : Rows.CodecFramedCardSaid :=
  Claim7.holds_tied_plain_at .later [] _ _ _ _ codecFramed_row (fun _ h => by cases h) (by kernel_rfl) (fun _ h => by cases h) codecFramed_row_tie rfl ⟨rfl, rfl⟩ (by kernel_rfl) rfl
    (fun f fn hf hfn => by
      obtain rfl : f = 4 := Option.some.inj ((show Tryd.prog.funcNamed "tryst/trystlaw20.CodecFramed" = some 4 by kernel_rfl).symm.trans hf) |>.symm
      obtain rfl : fn = Tryd.f4 := (Option.some.inj (Tryd.func4.symm.trans hfn)).symm
      exact ⟨by kernel_rfl, fun j t ht => by
        rw [Tryd.params4] at ht
        match j, ht with
        | 0, ht => obtain rfl : 3 = t := by simpa using ht
                   exact (show Tryd.prog.wantsStandIn 3 = false by kernel_rfl)
        | 1, ht => obtain rfl : 30 = t := by simpa using ht
                   exact (show Tryd.prog.wantsStandIn 30 = false by kernel_rfl)
        | j + 2, ht => simp at ht⟩)
    (by kernel_rfl)
#print axioms codecFramed_holds
end Go.Proofs.YtmochmpamgfboabDoor
