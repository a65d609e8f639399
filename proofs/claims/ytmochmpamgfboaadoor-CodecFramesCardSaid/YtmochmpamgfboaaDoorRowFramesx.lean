/- trystref20.Frame, ParseFrame; CopyBytes of whatever memory holds. Condition: lengths that memory can hold. trystref20.ParseFrame; CopyBytes of whatever memory holds. Condition: lengths that memory can hold. trystref00.SpareRows, KeptRows. Condition: lengths that memory can hold. Lists of lists appended to one another; Apart of such a list; lists with marked room behind them as rows. Condition: lengths that memory can hold. The walk of CodecFrames. Condition: the program's variable errors.errorType is as its text lays it. The law CodecFrames of package trystlaw20: for every bucket, list of lists of bytes and list of bytes the call returns true, and each argument reads afterwards as it read before; and its card: the one listed variable (errors.errorType) tied to the program's text. No condition. -/
import Derived.Test.YtmochmpamgfboaaDoorFrmx
import Derived.Deep.CutRange
import Derived.Deep.DeepCutAuto
import Derived.Deep.CutBlock
import Derived.Deep.RegionHeld
import Derived.Test.YtmochmpamgfboaaDoorTwi
import Derived.Test.YtmochmpamgfboaaDoorRows
import Derived.Test.YtmochmpamgfboaaDoorElem2
import Derived.WalkKit
import Derived.ProofKit
import Derived.OpenShut
import Derived.ShutString
import Derived.ChangeOld
import Derived.Below
import Derived.Test.YtmochmpamgfboaaDoorByt
import Derived.ChangeSlices
import Derived.SizedLaws
import Derived.ChangeArms
import Derived.Deep.Matrix
import Derived.Test.YtmochmpamgfboaaDoorCards
import Derived.Test.YtmochmpamgfboaaDoorTie
import Derived.ChangeSame
import Derived.ChangeVars
import Derived.JoinedOf
import Derived.RowKit
import Derived.RowKitTokens
import Derived.LaidLaws
import Derived.LaidHandle
import Derived.Stop.Joined
import Derived.SevenTiedAt
namespace Go.Proofs.YtmochmpamgfboaaDoor
open Go.RowKit
set_option maxHeartbeats 4000000 in
set_option maxRecDepth 100000 in
theorem frameR_any (k : Int) (p : Option Addr) (n c : Nat) (vs : List Row1) (w : World) (hn : vs.length = n) (h : RowsIn w p vs) :
    Calls Tryd.prog 20 #[.int .i64 k, .slice p n c] w (Ans w (frameQ k vs).1 (frameQ k vs).2) := by
  have H := Lib.hid h
  have HN := Lib.hid hn
  clear h
  by_cases hk : 1 ≤ k ∧ k < 64
  · have hk0 : ¬ k < 1 := by omega
    have hk1 : ¬ 64 ≤ k := by omega
    have hkb : (decide (k < 1) || decide (64 ≤ k)) = false := by rw [decide_eq_false hk0, decide_eq_false hk1]; rfl
    rw [frameQ, if_pos hk, hn]
    clear hk
    by_cases hl : n ≤ 256
    · rw [if_pos hl]
      have hl0 : ¬ (256 : Int) < n := by omega
      obtain ⟨R, hR⟩ : ∃ R, R = (if ∀ r ∈ vs, r.2.2.length = 88 then (le4 k ++ (le4 n ++ flat vs), (0 : Int)) else ([], 4)) := ⟨_, rfl⟩
      rw [← hR]
      have HR := Lib.hid hR
      clear hR hn
      go_enter Tryd.func20, Tryd.ntmps20
      go_wp2_with fail
      go_loopw [6] (fun i wr => ∃ m, m ≤ n ∧ i = .int .i64 (m : Nat) ∧ Below w.heap.size w wr ∧ ∀ j r, j < m → vs[j]? = some r → r.2.2.length = 88) (fun i _ => n - (intOf i).toNat)
      case atStart => exact ⟨0, by omega, rfl, Below.refl _ _, fun j r h => by omega⟩
      case round =>
        obtain ⟨m, hm, rfl, hb, hall⟩ := hrel
        have HB := Lib.hid hb
        have HALL := Lib.hid hall
        clear hb hall
        by_cases hlt : m < n
        · obtain ⟨r, hr⟩ : ∃ r, vs[m]? = some r := ⟨_, List.getElem?_eq_getElem (by rw [HN.out]; exact hlt)⟩
          have hr0 := H.out.under HB.out (Nat.le_refl _)
          obtain ⟨ad, rfl, ha, hc⟩ := hr0.1 m r hr
          have HRR := Lib.hid hr
          clear hr hr0
          obtain ⟨rp, rc, rl⟩ := r
          simp only at hc
          generalize hrn : rl.length = rn at hc
          have HRN := Lib.hid hrn
          clear hrn
          by_cases h88 : rn = 88
          · subst h88
            go_wp2_with fail
            go_roundw
            case rel =>
              refine ⟨m + 1, by omega, by go_num, HB.out, fun j r hj h => ?_⟩
              by_cases hjm : j = m
              · subst hjm
                rw [HRR.out] at h
                obtain rfl := Option.some.inj h
                exact HRN.out
              · exact HALL.out j r (by omega) h
            case measure => simp [intOf]; omega
          · have hb88 : ((rn : Int) != 88) = true := by rw [bne_iff_ne]; omega
            have hRe := HR.out
            rw [if_neg (fun h => h88 (HRN.out ▸ h _ (List.mem_of_getElem? HRR.out)))] at hRe
            subst hRe
            clear h88
            go_wp2_with fail
            exact ⟨rfl, .tuple #[.slice none 0 0, .int .i64 4], by kernel_rfl, HB.out, _, rfl, bts_nil _ _⟩
        · obtain rfl : m = n := by omega
          have h88 : ∀ r ∈ vs, r.2.2.length = 88 := fun r hr => by
            obtain ⟨j, hj, rfl⟩ := List.getElem_of_mem hr
            exact HALL.out j _ (by rw [← HN.out]; exact hj) (List.getElem?_eq_getElem hj)
          have hRe := HR.out
          rw [if_pos h88] at hRe
          subst hRe
          have HFL := Lib.hid (show (flat vs).length = m * 88 by rw [flat, flat88 vs h88, HN.out])
          clear h88
          have T1 : True := trivial
          have T2 : True := trivial
          go_wp2_with first
            | (go_at_call 50; refine ((fun (_ : True) => little_any _ _) T1).mono ?_; rintro e w2 ⟨hb, v2, rfl, hv2⟩; obtain ⟨p2, c2, rfl, hb2, hp2, ho2⟩ := hv2.open; rw [le4_len]; have BI2 := Lib.hid hb2; have HP2 := Lib.hid hp2; replace HB := Lib.hid (below_call hb HB.out); clear hb hv2 hb2 hp2 ho2 T1)
            | (go_at_call 50; refine (little_any _ _).mono ?_; rintro e w3 ⟨hb, v3, rfl, hv3⟩; obtain ⟨p3, c3, rfl, hb3, hp3, ho3⟩ := hv3.open; rw [le4_len]; have BI3 := Lib.hid hb3; have HP3 := Lib.hid hp3; replace BI2 := Lib.hid (BI2.out.keep hb); replace HB := Lib.hid (below_call hb HB.out); clear hb hv3 hb3 hp3 ho3)
            | (go_at_call 48; refine ((fun (_ : True) => two_any p2 p3 _ _ 4 4 c2 c3 _ (le4_len _) (le4_len _) BI2.out BI3.out HP2.out HP3.out (by decide)) T2).mono ?_; rintro e w4 ⟨hb, v4, rfl, hv4⟩; obtain ⟨p4, c4, rfl, hb4, hp4, ho4⟩ := hv4.open; rw [List.length_append, le4_len, le4_len]; have BI4 := Lib.hid hb4; have HP4 := Lib.hid hp4; replace HB := Lib.hid (below_call hb HB.out); clear hb hv4 hb4 hp4 ho4 T2)
            | (go_at_call 51; refine (join_any p m c vs _ HN.out (H.out.under HB.out (Nat.le_refl _)) (by omega) (by rw [HFL.out]; omega)).mono ?_; rintro e w5 ⟨hb, v5, rfl, hv5⟩; obtain ⟨p5, c5, rfl, hb5, hp5, ho5⟩ := hv5.open; have BI5 := Lib.hid hb5; have HP5 := Lib.hid hp5; replace BI4 := Lib.hid (BI4.out.keep hb); replace HB := Lib.hid (below_call hb HB.out); clear hb hv5 hb5 hp5 ho5)
            | (go_at_call 48; refine (two_any p4 p5 _ (flat vs) _ (flat vs).length c4 c5 _ (by rw [List.length_append, le4_len, le4_len]) rfl BI4.out BI5.out HP4.out HP5.out (by rw [HFL.out]; omega)).mono ?_; rintro e w6 ⟨hb, v6, rfl, hv6⟩; have HV6 := Lib.hid (hv6.low HB.out.size); replace HB := Lib.hid (below_call hb HB.out); clear hb hv6)
          refine ⟨rfl, .tuple #[v6, .int .i64 0], by kernel_rfl, HB.out, v6, rfl, ?_⟩
          have h9 := HV6.out
          rw [List.append_assoc] at h9
          simpa only [le4_u64, le4_64] using h9
    · rw [if_neg hl]
      have hl0 : (256 : Int) < n := by omega
      clear hn hl
      go_enter Tryd.func20, Tryd.ntmps20
      go_wp2_with fail
      exact ⟨rfl, .tuple #[.slice none 0 0, .int .i64 3], by kernel_rfl, Below.refl _ _, _, rfl, bts_nil _ _⟩
  · rw [frameQ, if_neg hk]
    clear hn
    go_enter Tryd.func20, Tryd.ntmps20
    by_cases hk0 : k < 1
    · clear hk
      have hkb : (decide (k < 1) || decide (64 ≤ k)) = true := by rw [decide_eq_true hk0]; rfl
      go_wp2_with fail
      exact ⟨rfl, .tuple #[.slice none 0 0, .int .i64 201], by kernel_rfl, Below.refl _ _, _, rfl, bts_nil _ _⟩
    · have hk1 : 64 ≤ k := by omega
      clear hk
      have hkb : (decide (k < 1) || decide (64 ≤ k)) = true := by rw [decide_eq_true hk1, Bool.or_true]
      go_wp2_with fail
      exact ⟨rfl, .tuple #[.slice none 0 0, .int .i64 201], by kernel_rfl, Below.refl _ _, _, rfl, bts_nil _ _⟩
/-- A slice just made by a call, appended: what wpList_appF asks of it. -/
theorem FrV.push {w w' : World} {B : Nat} {v : Value} {vs : List Row1} {p : Option Addr} {c : Nat} {l : List Int} (h : FrV w B v vs) (hb : Below w.heap.size w w') (hB : B ≤ w.heap.size) (hv : Bts w' w.heap.size (.slice p l.length c) l) :
    FrV w' B v vs ∧ Bts w' B (rowV (p, c, l)) l ∧ El1 w' (p, c, l) ∧ (∀ a, p = some a → some a.block ≠ v.ownBlock) ∧ ∀ s ∈ vs, pb s.1 = none ∨ pb s.1 ≠ pb p := by
  have hlt := h.1.lt
  have hel : El1 w' (p, c, l) := by
    obtain ⟨p', c', e, h1, _⟩ := hv.el
    injection e with e1 e2 e3
    subst e1; subst e3
    exact h1
  refine ⟨h.under hb, hv.low hB, hel, fun a ha e => ?_, fun s hs => ?_⟩
  · have h3 := (hv.lt a.block (by subst ha; rfl)).1
    have h4 := (hlt _ e.symm).2
    omega
  · cases e : s.1 with
    | none => exact .inl rfl
    | some a =>
      refine .inr fun e2 => ?_
      have h3 := (h.1.2 s hs).1.2.2 a e
      have h4 := (hv.lt a.block ((pb_own p _ _).trans e2.symm)).1
      omega
set_option maxHeartbeats 4000000 in
set_option maxRecDepth 100000 in
theorem copyW_any (p : Option Addr) (l : List Int) (n c : Nat) (w : World) (hn : l.length = n) (h : BytesIn w p l) (hm : n ≤ 140737488355328) :
    Calls Tryd.prog 28 #[.slice p n c] w (NewV w l) := by
  have hmk : ∀ u : World, (Instr.makeSlice 26 (.int .i64 0) (.int .i64 (n : Int))).run Tryd.prog u = .ok (.slice (some ⟨u.heap.size, 0, none⟩) 0 n) (u.alloc (.cells (vals (List.replicate n 0)) 5)) := fun u => run_make_bts u 0 n (Nat.zero_le _) (by omega)
  have H := Lib.hid h
  have HN := Lib.hid hn
  have HB0 := Lib.hid ((Below.refl w.heap.size w).alloc (Nat.le_refl _) (.cells (vals (List.replicate n 0)) 5))
  have HBT0 := Lib.hid (show Bts (w.alloc (.cells (vals (List.replicate n 0)) 5)) w.heap.size (.slice (some ⟨w.heap.size, 0, none⟩) 0 n) [] from Bts.row (l := []) (heap_alloc_new w _) (Nat.le_refl _) (Nat.zero_le _) (by simp only [maxLen]; omega) (by simp [vals_size]) rfl)
  clear h hn
  go_enter Tryd.func28, Tryd.ntmps28
  go_wp2
  go_loopw [3, 4] (fun v i wr => ∃ k, k ≤ n ∧ i = .int .i64 (k : Nat) ∧ Bts wr w.heap.size v (l.take k) ∧ Below w.heap.size w wr) (fun _ i _ => n - (intOf i).toNat)
  case atStart => exact ⟨0, by omega, rfl, HBT0.out, HB0.out⟩
  case round =>
    clear HB0 HBT0
    obtain ⟨k, hk, rfl, hbt, hb⟩ := hrel
    have HB := Lib.hid hb
    have HBT := Lib.hid hbt
    clear hb hbt
    by_cases hlt : k < n
    · obtain ⟨a2, rfl, _, x1⟩ := H.out.under HB.out (Nat.le_refl _) k (by rw [HN.out]; exact hlt)
      have HT := Lib.hid (take_bytes l k (by rw [HN.out]; exact hlt))
      have HLE := Lib.hid (show (l.take k).length + 1 ≤ 140737488355328 by
        rw [List.length_take]
        omega)
      generalize nth l k = x at x1 HT
      go_wp2_with (at_builtin; (refine held_append _ _ rfl ?_))
      refine wpList_app1 _ _ rfl rfl rfl rfl HB.out HBT.out HLE.out fun v' w' h1 h2 _ _ => ?_
      rw [HT.out] at h1
      have H1 := Lib.hid h1
      have H2 := Lib.hid h2
      clear h1 h2
      go_wp2
      go_roundw
      case rel => exact ⟨k + 1, by omega, by go_num, H1.out, H2.out⟩
      case measure => simp [intOf]; omega
    · obtain rfl : k = n := by omega
      have HBT1 := Lib.hid (show Bts wr w.heap.size u3 l by have := HBT.out; rwa [List.take_of_length_le (Nat.le_of_eq HN.out)] at this)
      go_wp2
      exact ⟨rfl, u3, by kernel_rfl, HB.out, _, rfl, HBT1.out⟩
set_option maxHeartbeats 4000000 in
set_option maxRecDepth 100000 in
theorem parseFrameR_any (p : Option Addr) (n c : Nat) (b : List Int) (w : World) (hn : b.length = n) (hbb : Byt b) (h : BytesIn w p b) (hc : n ≤ c) :
    Calls Tryd.prog 25 #[.slice p n c] w (AnsR w (frameP b).1 (frameP b).2.1 (frameP b).2.2) := by
  have H := Lib.hid h
  have HN := Lib.hid hn
  have HBB := Lib.hid hbb
  have HC := Lib.hid hc
  clear h hn hbb hc
  by_cases h8 : n < 8
  · rw [frameP_bad (fun hf => by have := hf.1; have := HN.out; omega)]
    go_enter Tryd.func25, Tryd.ntmps25
    go_wp2_with fail
    exact ⟨rfl, .tuple #[.int .i64 0, .slice none 0 0, .int .i64 202], by kernel_rfl, Below.refl _ _, _, [], rfl, frv_nil _ _, rfl⟩
  · obtain ⟨ad, rfl⟩ : ∃ a, p = some a := by
      obtain ⟨a, h1, _⟩ := H.out 0 (by rw [HN.out]; omega)
      exact ⟨a, h1⟩
    have hn := HN.out
    have hcn := HC.out
    have hl4 : (b.take 4).length = 4 := by rw [List.length_take]; omega
    have hl8 : ((b.drop 4).take 4).length = 4 := by rw [List.length_take, List.length_drop]; omega
    obtain ⟨q, hq⟩ : ∃ q, q = num (b.take 4) := ⟨_, rfl⟩
    have hqb := num4 HBB.out
    rw [← hq] at hqb
    have hmb := num4 (HBB.out.drop 4)
    obtain ⟨m, hm⟩ : ∃ m : Nat, (m : Int) = num ((b.drop 4).take 4) := ⟨(num ((b.drop 4).take 4)).toNat, by omega⟩
    rw [← hm] at hmb
    have HL4 := Lib.hid hl4
    have HL8 := Lib.hid hl8
    have HQ := Lib.hid hq
    have HM := Lib.hid hm
    have HB4 := Lib.hid (show Byt (b.take 4) from HBB.out.take 4)
    have HB8 := Lib.hid (show Byt ((b.drop 4).take 4) from (HBB.out.drop 4).take 4)
    have HI4 := Lib.hid (show BytesIn w (some ad) (b.take 4) from by
      have h1 := H.out.sub 0 4
      rwa [List.drop_zero, show ad.add 0 = ad by simp [Addr.add]] at h1)
    have HI8 := Lib.hid (show BytesIn w (some (ad.add 4)) ((b.drop 4).take 4) from H.out.sub 4 4)
    have T1 : True := trivial
    clear hn hl4 hl8
    by_cases hq1 : q < 1
    · rw [frameP_bad (fun hf => by have h1 := hf.2; rw [← hq, ← hm, HN.out] at h1; omega)]
      clear hq hm
      go_enter Tryd.func25, Tryd.ntmps25
      go_wp2_with first
        | (go_at_call 57; refine ((fun (_ : True) => number_ev _ HL4.out HB4.out (by decide) HI4.out HQ.out) T1).mono ?_; rintro e w1 ⟨_, rfl, rfl, hb⟩; have HB := Lib.hid hb; have HI9 := Lib.hid (HI8.out.keep hb); clear hb T1)
        | (go_at_call 57; refine (number_ev _ HL8.out HB8.out (by decide) HI9.out HM.out).mono ?_; rintro e w2 ⟨_, rfl, rfl, hb⟩; replace HB := Lib.hid (below_call hb HB.out); clear hb)
      exact ⟨rfl, .tuple #[.int .i64 0, .slice none 0 0, .int .i64 202], by kernel_rfl, HB.out, _, [], rfl, frv_nil _ _, rfl⟩
    · have hq1' : 1 ≤ q := by omega
      by_cases hq2 : 64 ≤ q
      · rw [frameP_bad (fun hf => by have h1 := hf.2; rw [← hq, ← hm, HN.out] at h1; omega)]
        clear hq hm
        go_enter Tryd.func25, Tryd.ntmps25
        go_wp2_with first
          | (go_at_call 57; refine ((fun (_ : True) => number_ev _ HL4.out HB4.out (by decide) HI4.out HQ.out) T1).mono ?_; rintro e w1 ⟨_, rfl, rfl, hb⟩; have HB := Lib.hid hb; have HI9 := Lib.hid (HI8.out.keep hb); clear hb T1)
          | (go_at_call 57; refine (number_ev _ HL8.out HB8.out (by decide) HI9.out HM.out).mono ?_; rintro e w2 ⟨_, rfl, rfl, hb⟩; replace HB := Lib.hid (below_call hb HB.out); clear hb)
        exact ⟨rfl, .tuple #[.int .i64 0, .slice none 0 0, .int .i64 202], by kernel_rfl, HB.out, _, [], rfl, frv_nil _ _, rfl⟩
      · have hq2' : q < 64 := by omega
        by_cases hm1 : 256 < m
        · rw [frameP_bad (fun hf => by have h1 := hf.2; rw [← hq, ← hm, HN.out] at h1; omega)]
          clear hq hm
          go_enter Tryd.func25, Tryd.ntmps25
          go_wp2_with first
            | (go_at_call 57; refine ((fun (_ : True) => number_ev _ HL4.out HB4.out (by decide) HI4.out HQ.out) T1).mono ?_; rintro e w1 ⟨_, rfl, rfl, hb⟩; have HB := Lib.hid hb; have HI9 := Lib.hid (HI8.out.keep hb); clear hb T1)
            | (go_at_call 57; refine (number_ev _ HL8.out HB8.out (by decide) HI9.out HM.out).mono ?_; rintro e w2 ⟨_, rfl, rfl, hb⟩; replace HB := Lib.hid (below_call hb HB.out); clear hb)
          exact ⟨rfl, .tuple #[.int .i64 0, .slice none 0 0, .int .i64 202], by kernel_rfl, HB.out, _, [], rfl, frv_nil _ _, rfl⟩
        · have hm1' : m ≤ 256 := by omega
          by_cases hn1 : ¬ (n : Int) = 8 + (m : Int) * 88
          · rw [frameP_bad (fun hf => by have h1 := hf.2; rw [← hq, ← hm, HN.out] at h1; omega)]
            have hnb : ((n : Int) != 8 + (m : Int) * 88) = true := by rw [bne_iff_ne]; exact hn1
            clear hq hm
            go_enter Tryd.func25, Tryd.ntmps25
            go_wp2_with first
              | (go_at_call 57; refine ((fun (_ : True) => number_ev _ HL4.out HB4.out (by decide) HI4.out HQ.out) T1).mono ?_; rintro e w1 ⟨_, rfl, rfl, hb⟩; have HB := Lib.hid hb; have HI9 := Lib.hid (HI8.out.keep hb); clear hb T1)
              | (go_at_call 57; refine (number_ev _ HL8.out HB8.out (by decide) HI9.out HM.out).mono ?_; rintro e w2 ⟨_, rfl, rfl, hb⟩; replace HB := Lib.hid (below_call hb HB.out); clear hb)
            exact ⟨rfl, .tuple #[.int .i64 0, .slice none 0 0, .int .i64 202], by kernel_rfl, HB.out, _, [], rfl, frv_nil _ _, rfl⟩
          · have hn1' : n = 8 + m * 88 := by omega
            rw [frameP_ok (show fok b from ⟨by rw [HN.out]; omega, by rw [← hq]; exact hq1', by rw [← hq]; exact hq2', by rw [← hm]; omega, by rw [← hm, HN.out]; omega⟩) hq hm]
            have hnb : ((n : Int) != 8 + (m : Int) * 88) = false := by rw [bne_eq_false_iff_eq]; omega
            have HN1 := Lib.hid hn1'
            clear hn1 hn1' hq hm
            go_enter Tryd.func25, Tryd.ntmps25
            go_wp2_with first
              | (go_at_call 57; refine ((fun (_ : True) => number_ev _ HL4.out HB4.out (by decide) HI4.out HQ.out) T1).mono ?_; rintro e w1 ⟨_, rfl, rfl, hb⟩; have HB := Lib.hid hb; have HI9 := Lib.hid (HI8.out.keep hb); clear hb T1)
              | (go_at_call 57; refine (number_ev _ HL8.out HB8.out (by decide) HI9.out HM.out).mono ?_; rintro e w2 ⟨_, rfl, rfl, hb⟩; replace HB := Lib.hid (below_call hb HB.out); clear hb)
            go_loopw [8, 7] (fun i v wr => ∃ k, k ≤ m ∧ i = .int .i64 (k : Nat) ∧ Below w.heap.size w wr ∧ ∃ vs, FrV wr w.heap.size v vs ∧ vs.map (·.2.2) = rowsOf b k) (fun i _ _ => m - (intOf i).toNat)
            case atStart => exact ⟨0, by omega, rfl, HB.out, [], frv_nil _ _, rfl⟩
            case round =>
              clear hnb HB
              obtain ⟨k, hk, rfl, hb, vs, hf, hvs⟩ := hrel
              have HB := Lib.hid hb
              have HF := Lib.hid hf
              have HVS := Lib.hid hvs
              have HKL := Lib.hid (show vs.length = k by
                have h1 := congrArg List.length hvs
                simpa [rowsOf] using h1)
              clear hb hf hvs
              by_cases hlt : k < m
              · have hn1' := HN1.out
                have HRL := Lib.hid (show (rowAt b k).length = 88 by rw [rowAt, List.length_take, List.length_drop, HN.out]; omega)
                have HI := Lib.hid (show BytesIn wr (some (ad.add (8 + k * 88))) (rowAt b k) from by
                  rw [show rowAt b k = (b.drop (8 + k * 88)).take 88 by rw [rowAt, Nat.mul_comm]]
                  exact (H.out.under HB.out (Nat.le_refl _)).sub (8 + k * 88) 88)
                have hx1 : 8 + k * 88 + 88 ≤ c := by omega
                clear hn1'
                go_wp2_with first
                  | (go_at_call 28; refine (copyW_any _ (rowAt b k) 88 _ _ HRL.out HI.out (by decide)).mono ?_; rintro e w5 ⟨hb, v5, rfl, hv⟩; obtain ⟨p5, c5, rfl, ho⟩ := hv.open; clear ho; have HB5 := Lib.hid hb; have HV5 := Lib.hid hv; clear hb hv)
                  | (at_builtin; (refine held_append _ _ rfl ?_))
                obtain ⟨f1, f2, f3, f4, f5⟩ := HF.out.push HB5.out HB.out.size HV5.out
                refine wpList_appF (p5, c5, rowAt b k) _ _ rfl rfl rfl rfl (Nat.le_trans HB.out.size HB5.out.size) f1 f2 f3 f4 f5 (by rw [HKL.out]; omega) fun v' w' h1 h2 => ?_
                have H1 := Lib.hid h1
                have H2 := Lib.hid ((below_call HB5.out HB.out).grown h2 (Nat.le_trans HB.out.size HB5.out.size) fun x hx => (HF.out.1.lt x hx).1)
                clear h1 h2 f1 f2 f3 f4 f5 hx1
                go_wp2_with fail
                go_roundw
                case rel => exact ⟨k + 1, by omega, by go_num, H2.out, _, H1.out, by rw [List.map_append, HVS.out, rowsOf_succ]; rfl⟩
                case measure => simp [intOf]; omega
              · obtain rfl : k = m := by omega
                go_wp2_with fail
                exact ⟨rfl, .tuple #[.int .i64 q, u7, .int .i64 0], by kernel_rfl, HB.out, _, vs, rfl, HF.out, HVS.out⟩
/-- Cell j of such a list: a list with marked room behind it; behind the last one: marks. -/
def SpCell (w : World) (g : Nat) (vs : List Row1) (n j : Nat) (v : Value) : Prop :=
  (∀ r, vs[j]? = some r → ∃ q t, q ≠ g ∧ v = .slice (some ⟨q, 0, none⟩) r.2.2.length (r.2.2.length + 80) ∧ w.heap[q]? = some (.cells (vals (spareL r.2.2)) t (0, 0))) ∧
  (n ≤ j → ∃ q t, q ≠ g ∧ v = .slice (some ⟨q, 0, none⟩) 2 2 ∧ w.heap[q]? = some (.cells #[.int .u8 ((j : Int) % 256), .int .u8 119] t (0, 0)))
theorem SpCell.keep {w w' : World} {g : Nat} {vs : List Row1} {n j : Nat} {v : Value} (h : SpCell w g vs n j v) (hb : Below w.heap.size w w') : SpCell w' g vs n j v :=
  ⟨fun r hr => by obtain ⟨q, t, h1, h2, h3⟩ := h.1 r hr; exact ⟨q, t, h1, h2, row_call hb h3⟩, fun hn => by obtain ⟨q, t, h1, h2, h3⟩ := h.2 hn; exact ⟨q, t, h1, h2, row_call hb h3⟩⟩
theorem SpCell.set {w : World} {g k : Nat} {vs : List Row1} {n j : Nat} {v u : Value} (h : SpCell w g vs n j v) : SpCell (w.setCell ⟨g, k, none⟩ u) g vs n j v :=
  ⟨fun r hr => by obtain ⟨q, t, h1, h2, h3⟩ := h.1 r hr; exact ⟨q, t, h1, h2, (heap_setCell_other w ⟨g, k, none⟩ q u h1).trans h3⟩,
    fun hn => by obtain ⟨q, t, h1, h2, h3⟩ := h.2 hn; exact ⟨q, t, h1, h2, (heap_setCell_other w ⟨g, k, none⟩ q u h1).trans h3⟩⟩
/-- The first k cells of such a list, in block g. -/
def SpRows (w : World) (g : Nat) (vs : List Row1) (n k : Nat) (C : Array Value) : Prop := (∃ t, w.heap[g]? = some (.cells C t (0, 0))) ∧ C.size = n + 3 ∧ ∀ j v, j < k → C[j]? = some v → SpCell w g vs n j v
theorem SpRows.keep {w w' : World} {g : Nat} {vs : List Row1} {n k : Nat} {C : Array Value} (h : SpRows w g vs n k C) (hb : Below w.heap.size w w') : SpRows w' g vs n k C := by
  obtain ⟨⟨t, h1⟩, h2, h3⟩ := h
  exact ⟨⟨t, row_call hb h1⟩, h2, fun j v hj hv => (h3 j v hj hv).keep hb⟩
theorem SpRows.put {w : World} {g : Nat} {vs : List Row1} {n k : Nat} {C : Array Value} {v : Value} (h : SpRows w g vs n k C) (hk : k < n + 3) (hv : SpCell w g vs n k v) : SpRows (w.setCell ⟨g, k, none⟩ v) g vs n (k + 1) (C.setIfInBounds k v) := by
  obtain ⟨⟨t, h1⟩, h2, h3⟩ := h
  refine ⟨⟨t, by rw [heap_setCell_same _ _ _ _ _ _ h1]⟩, by simpa using h2, fun j u hj hu => ?_⟩
  by_cases hjk : j = k
  · subst hjk
    rw [Array.getElem?_setIfInBounds_self_of_lt (by omega)] at hu
    obtain rfl := Option.some.inj hu
    exact hv.set
  · rw [Array.getElem?_setIfInBounds_ne (Ne.symm hjk)] at hu
    exact (h3 j u (by omega) hu).set
theorem SpRows.cell {w : World} {g : Nat} {vs : List Row1} {n k j : Nat} {C : Array Value} (h : SpRows w g vs n k C) (hj : j < n + 3) : ∃ v, C[j]? = some v ∧ w.cell? ⟨g, j, none⟩ = some v ∧ w.frozen? ⟨g, j, none⟩ = false ∧ (j < k → SpCell w g vs n j v) := by
  obtain ⟨⟨t, h1⟩, h2, h3⟩ := h
  have hv : C[j]? = some C[j] := Array.getElem?_eq_getElem (by omega)
  exact ⟨_, hv, (row_cell h1 j).trans hv, row_free h1 j, fun hjk => h3 j _ hjk hv⟩
/-- What SpareRows hands back. -/
def NewSp (w : World) (vs : List Row1) (n : Nat) (e : Ending) (w' : World) : Prop := Below w.heap.size w w' ∧ ∃ g C, w.heap.size ≤ g ∧ e = .returned (.slice (some ⟨g, 0, none⟩) n (n + 3)) ∧ SpRows w' g vs n (n + 3) C
set_option maxHeartbeats 4000000 in
set_option maxRecDepth 100000 in
theorem spareRows_any (p : Option Addr) (n c : Nat) (vs : List Row1) (w : World) (hn : vs.length = n) (h : RowsIn w p vs) (hm : n ≤ 5864062014805) (hl : ∀ r ∈ vs, r.2.2.length ≤ 140737488355328) :
    Calls Tryd.prog 18 #[.slice p n c] w (NewSp w vs n) := by
  obtain ⟨ie, hie, hz, hs, hb⟩ := slice_info
  have hmk : ∀ u : World, (Instr.makeSlice 40 (.int .i64 ((n : Int) + 3)) (.int .i64 ((n : Int) + 3))).run Tryd.prog u = .ok (.slice (some ⟨u.heap.size, 0, none⟩) (n + 3) (n + 3)) (u.alloc (.cells (madeCells #[.slice none 0 0] (n + 3)) 26)) := fun u => by
    have hr := run_make (P := Tryd.prog) u 40 26 ie (.slice none 0 0) Tryd.underlying40 hie hz .i64 .i64 ((n : Int) + 3) ((n : Int) + 3) (by omega) (Int.le_refl _) (by rw [hb]; omega) (by omega)
    have e : ((n : Int) + 3).toNat = n + 3 := by omega
    rw [e, hs, Nat.mul_one] at hr
    exact hr
  have H := Lib.hid h
  have HN := Lib.hid hn
  have HL := Lib.hid hl
  obtain ⟨C0, hC0⟩ : ∃ C0, C0 = madeCells #[.slice none 0 0] (n + 3) := ⟨_, rfl⟩
  rw [← hC0] at hmk
  have HB0 := Lib.hid ((Below.refl w.heap.size w).alloc (Nat.le_refl _) (.cells C0 26))
  have HS0 := Lib.hid (show SpRows (w.alloc (.cells C0 26)) w.heap.size vs n 0 C0 from ⟨⟨_, heap_alloc_new w _⟩, by rw [hC0, size_madeCells], fun j v hj => by omega⟩)
  clear h hn hl hie hz hs hb hC0
  go_enter Tryd.func18, Tryd.ntmps18
  go_wp2_with fail
  go_loopw [4] (fun i wr => ∃ k, k ≤ n + 3 ∧ i = .int .i64 (k : Nat) ∧ Below w.heap.size w wr ∧ ∃ C, SpRows wr w.heap.size vs n k C) (fun i _ => n + 3 - (intOf i).toNat)
  case atStart => exact ⟨0, by omega, rfl, HB0.out, _, HS0.out⟩
  case round =>
    clear HB0 HS0 hmk
    obtain ⟨k, hk, rfl, hb, C, hsp⟩ := hrel
    have HB := Lib.hid hb
    have HS := Lib.hid hsp
    have HLT := Lib.hid (show w.heap.size < wr.heap.size from by obtain ⟨⟨t, h1⟩, _⟩ := hsp; exact (Array.getElem?_eq_some_iff.1 h1).1)
    clear hb hsp
    by_cases hlt : k < n + 3
    · by_cases hkn : k < n
      · obtain ⟨r, hr⟩ : ∃ r, vs[k]? = some r := ⟨_, List.getElem?_eq_getElem (by rw [HN.out]; exact hkn)⟩
        have hr0 := H.out.under HB.out (Nat.le_refl _)
        obtain ⟨ad, rfl, ha, hc⟩ := hr0.1 k r hr
        have HR := Lib.hid (hr0.2 r (List.mem_of_getElem? hr)).1
        have HLR := Lib.hid (HL.out r (List.mem_of_getElem? hr))
        have HRR := Lib.hid hr
        clear hr hr0
        obtain ⟨rp, rc, rl⟩ := r
        simp only at HR hc HLR
        generalize hrn : rl.length = rn at hc HLR
        have HRN := Lib.hid hrn
        clear hrn
        go_wp2_with (go_at_call 8; refine (spare_any rp rl rn rc _ HRN.out HR.out HLR.out).mono ?_; rintro e w5 ⟨hb, q, t, rfl, hq, hrow⟩; rw [spareL_len, HRN.out]; have HS5 := Lib.hid (HS.out.keep hb); obtain ⟨v0, _, x2, x3, _⟩ := HS5.out.cell hlt; have HQ := Lib.hid hq; have HROW := Lib.hid hrow; replace HB := Lib.hid (below_call hb HB.out); clear hb hq hrow hc)
        have HS6 := Lib.hid (HS5.out.put hlt (v := .slice (some ⟨q, 0, none⟩) rn (rn + 80)) ⟨fun r hr => by
          rw [HRR.out] at hr
          obtain rfl := Option.some.inj hr
          exact ⟨q, t, Ne.symm (Nat.ne_of_lt (Nat.lt_of_lt_of_le HLT.out HQ.out)), by rw [← HRN.out], HROW.out⟩, fun h => by omega⟩)
        have HB6 := Lib.hid (HB.out.setCell (p := ⟨w.heap.size, k, none⟩) (Nat.le_refl _) (.slice (some ⟨q, 0, none⟩) rn (rn + 80)))
        go_roundw
        case rel => exact ⟨k + 1, by omega, by go_num, HB6.out, _, HS6.out⟩
        case measure => simp [intOf]; omega
      · have HB7 := Lib.hid (HB.out.alloc HB.out.size (.cells #[.int .u8 ((k : Int) % 256), .int .u8 119] 5))
        have HS7 := Lib.hid (HS.out.keep ((Below.refl wr.heap.size wr).alloc (Nat.le_refl _) (.cells #[.int .u8 ((k : Int) % 256), .int .u8 119] 5)))
        obtain ⟨v0, _, x2, x3, _⟩ := HS7.out.cell hlt
        have HS6 := Lib.hid (HS7.out.put hlt (v := .slice (some ⟨wr.heap.size, 0, none⟩) 2 2) ⟨fun r hr => by
          have := (List.getElem?_eq_some_iff.1 hr).1
          rw [HN.out] at this
          omega, fun _ => ⟨wr.heap.size, _, Ne.symm (Nat.ne_of_lt HLT.out), rfl, heap_alloc_new wr _⟩⟩)
        have HB6 := Lib.hid (HB7.out.setCell (p := ⟨w.heap.size, k, none⟩) (Nat.le_refl _) (.slice (some ⟨wr.heap.size, 0, none⟩) 2 2))
        go_wp2_with fail
        go_roundw
        case rel => exact ⟨k + 1, by omega, by go_num, HB6.out, _, HS6.out⟩
        case measure => simp [intOf]; omega
    · obtain rfl : k = n + 3 := by omega
      go_wp2_with fail
      exact ⟨rfl, .slice (some ⟨w.heap.size, 0, none⟩) n (n + 3), by kernel_rfl, HB.out, w.heap.size, C, Nat.le_refl _, rfl, HS.out⟩
theorem yieldsIf_cell2 {P : Program} {ops : Array Oper} {S : World → Prop} {op : Oper} {a : Act} (hw : Region.wanted op (yielded ops a.tmps) = true) (ty : TypeId) (x : Operand) (ho : op.op = .load ty x)
    (ad : Addr) (hx : a.eval x = .pointer (some ad)) (v : Value) (hS : ∀ w, S w → w.cell? ad = some v) (hT : CellT P ty) : YieldsIf P ops S op v a := by
  refine .inl ⟨hw, fun w hw' => ?_⟩
  unfold execOp; rw [ho]
  show ((do let z ← Instr.loadAt ty (a.eval x); pure (Next.value z)) : Sem Next).run P w = _
  rw [hx, Sem.run_bind, run_load_cell hT (hS w hw')]
  rfl
set_option maxHeartbeats 4000000 in
set_option maxRecDepth 100000 in
theorem keptRows_any (g : Nat) (C : Array Value) (p : Option Addr) (n c : Nat) (vs : List Row1) (w : World) (hn : vs.length = n) (h : RowsIn w p vs) (hm : n ≤ 5864062014805) (hl : ∀ r ∈ vs, r.2.2.length ≤ 140737488355328) (hsp : SpRows w g vs n (n + 3) C) :
    Calls Tryd.prog 22 #[.slice (some ⟨g, 0, none⟩) n (n + 3), .slice p n c] w (Gives (· = .bool true) w) := by
  have H := Lib.hid h
  have HN := Lib.hid hn
  have HL := Lib.hid hl
  have HSP := Lib.hid hsp
  clear h hn hl hsp
  go_enter Tryd.func22, Tryd.ntmps22
  go_wp2_with fail
  go_loopw [5] (fun i wr => ∃ k, k ≤ n ∧ i = .int .i64 (k : Nat) ∧ Below w.heap.size w wr) (fun i _ => n - (intOf i).toNat)
  case atStart => exact ⟨0, by omega, rfl, Below.refl _ _⟩
  case round =>
    obtain ⟨k, hk, rfl, hb⟩ := hrel
    have HB := Lib.hid hb
    clear hb
    by_cases hlt : k < n
    · obtain ⟨r, hr⟩ : ∃ r, vs[k]? = some r := ⟨_, List.getElem?_eq_getElem (by rw [HN.out]; exact hlt)⟩
      have hr0 := H.out.under HB.out (Nat.le_refl _)
      obtain ⟨ad, rfl, ha, hc⟩ := hr0.1 k r hr
      have HR := Lib.hid (hr0.2 r (List.mem_of_getElem? hr)).1
      have HLR := Lib.hid (HL.out r (List.mem_of_getElem? hr))
      obtain ⟨v0, _, x2, _, hcell⟩ := (HSP.out.keep HB.out).cell (show k < n + 3 by omega)
      obtain ⟨q, t, _, rfl, hrow⟩ := (hcell (by omega)).1 r hr
      have HROW := Lib.hid hrow
      clear hr hr0 hcell hrow
      obtain ⟨rp, rc, rl⟩ := r
      simp only at HR hc HLR x2 HROW
      generalize hrn : rl.length = rn at hc HLR x2
      have HRN := Lib.hid hrn
      have HC1 := Lib.hid (show ∀ w', Below wr.heap.size wr w' → w'.cell? ⟨g, k, none⟩ = some (.slice (some ⟨q, 0, none⟩) rn (rn + 80)) from fun w' hb => by
        rw [← x2]
        refine World.cell?_of_block (hb.block _ ?_)
        exact World.block_lt_of_cell? wr _ x2)
      have HC2 := Lib.hid (show ∀ w', Below wr.heap.size wr w' → w'.cell? (ad.add k) = some (.slice rp rn rc) from fun w' hb => by
        rw [← hc]
        exact World.cell?_of_block (by rw [add_block]; exact hb.block _ ha))
      clear hrn x2 hc ha
      go_upto_region 6 with fail
      refine wp_region_held_drew (S := (fun w' : World => Below wr.heap.size wr w')) (by kernel_rfl) (Below.refl _ _).drew (fun hS => ?_)
      refine wpAnyH_take (i := 0) (oi := ⟨some 19, _, _, _, _, _⟩) (v := ?_) rfl (by kernel_rfl) (by kernel_rfl) (by kernel_rfl) (fun _ _ _ h => h) (Or.inl ⟨by rfl, ?_⟩) hS ?_
      rotate_left
      · intro w hSw; go_simp; first | done | with_reducible rfl
      try simp only [Act.put, List.setIfInBounds_toArray, List.set_cons_zero, List.set_cons_succ]
      refine wpAnyH_take (i := 1) (oi := ⟨some 20, _, _, _, _, _⟩) (v := ?_) rfl (by kernel_rfl) (by kernel_rfl) (by kernel_rfl) (fun _ _ _ h => h) (Or.inl ⟨by rfl, ?_⟩) hS ?_
      rotate_left
      · intro w hSw; go_simp; first | done | with_reducible rfl
      try simp only [Act.put, List.setIfInBounds_toArray, List.set_cons_zero, List.set_cons_succ]
      refine wpAnyH_take (i := 2) (oi := ⟨some 21, _, _, _, _, _⟩) (v := ?_) rfl (by kernel_rfl) (by kernel_rfl) (by kernel_rfl) (fun _ _ _ h => h) (Or.inl ⟨by rfl, ?_⟩) hS ?_
      rotate_left
      · intro w hSw; go_simp; first | done | with_reducible rfl
      try simp only [Act.put, List.setIfInBounds_toArray, List.set_cons_zero, List.set_cons_succ]
      refine wpAnyH_take (i := 3) (oi := ⟨some 22, _, _, _, _, _⟩) rfl (by kernel_rfl) (by kernel_rfl) (by kernel_rfl) (fun _ _ _ h => h) (yieldsIf_cell2 (by rfl) _ _ rfl (⟨g, k, none⟩) (by rfl) (.slice (some ⟨q, 0, none⟩) rn (rn + 80)) (fun _ h => HC1.out _ h) tSl) hS ?_
      try simp only [Act.put, List.setIfInBounds_toArray, List.set_cons_zero, List.set_cons_succ]
      refine wpAnyH_take (i := 4) (oi := ⟨some 23, _, _, _, _, _⟩) (v := ?_) rfl (by kernel_rfl) (by kernel_rfl) (by kernel_rfl) (fun _ _ _ h => h) (Or.inl ⟨by rfl, ?_⟩) hS ?_
      rotate_left
      · intro w hSw; go_simp; first | done | with_reducible rfl
      try simp only [Act.put, List.setIfInBounds_toArray, List.set_cons_zero, List.set_cons_succ]
      refine wpAnyH_take (i := 5) (oi := ⟨some 24, _, _, _, _, _⟩) (v := ?_) rfl (by kernel_rfl) (by kernel_rfl) (by kernel_rfl) (fun _ _ _ h => h) (Or.inl ⟨by rfl, ?_⟩) hS ?_
      rotate_left
      · intro w hSw; go_simp; first | done | with_reducible rfl
      try simp only [Act.put, List.setIfInBounds_toArray, List.set_cons_zero, List.set_cons_succ]
      refine wpAnyH_take (i := 6) (oi := ⟨some 25, _, _, _, _, _⟩) (v := ?_) rfl (by kernel_rfl) (by kernel_rfl) (by kernel_rfl) (fun _ _ _ h => h) (Or.inl ⟨by rfl, ?_⟩) hS ?_
      rotate_left
      · intro w hSw; go_simp; first | done | with_reducible rfl
      try simp only [Act.put, List.setIfInBounds_toArray, List.set_cons_zero, List.set_cons_succ]
      refine wpAnyH_take (i := 7) (oi := ⟨some 26, _, _, _, _, _⟩) rfl (by kernel_rfl) (by kernel_rfl) (by kernel_rfl) (fun _ _ _ h => h) (yieldsIf_cell2 (by rfl) _ _ rfl (ad.add k) (by rfl) (.slice rp rn rc) (fun _ h => HC2.out _ h) tSl) hS ?_
      try simp only [Act.put, List.setIfInBounds_toArray, List.set_cons_zero, List.set_cons_succ]
      refine wpAnyH_ready (rs := [8]) (by kernel_rfl) (by simp) (AllReadyH.cons (o := ⟨some 27, _, _, _, _, _⟩) rfl (fun K hK => ?_) AllReadyH.nil)
      go_simp
      refine (kept_any q t rp rl rn rc _ HRN.out (row_call hS HROW.out) (HR.out.keep hS) HLR.out).mono ?_
      rintro e w' ⟨_, rfl, rfl, hb⟩
      refine hK.out _ _ (below_call hb hS) (fun hS => ?_)
      clear hK K
      try simp only [Act.put, List.setIfInBounds_toArray, List.set_cons_zero, List.set_cons_succ]
      refine wpAnyH_take (i := 9) (oi := ⟨some 28, _, _, _, _, _⟩) (v := ?_) rfl (by kernel_rfl) (by kernel_rfl) (by kernel_rfl) (fun _ _ _ h => h) (Or.inl ⟨by rfl, ?_⟩) hS ?_
      rotate_left
      · intro w hSw; go_simp; first | done | with_reducible rfl
      try simp only [Act.put, List.setIfInBounds_toArray, List.set_cons_zero, List.set_cons_succ]
      refine wpAnyH_done (by kernel_rfl) ?_ _
      have HB2 := Lib.hid (below_call hS HB.out)
      go_wp2_with fail
      go_roundw
      case rel => exact ⟨k + 1, by omega, by go_num, HB2.out⟩
      case measure => simp [intOf]; omega
    · obtain rfl : k = n := by omega
      clear hlt
      go_wp2_with fail
      go_loopw [7] (fun i wr => ∃ j, j ≤ 3 ∧ i = .int .i64 ((k + j : Nat) : Int) ∧ Below w.heap.size w wr) (fun i _ => k + 3 - (intOf i).toNat)
      case atStart => exact ⟨0, by omega, rfl, HB.out⟩
      case round =>
        clear HB
        obtain ⟨j, hj, rfl, hb⟩ := hrel
        have HB := Lib.hid hb
        clear hb
        by_cases hlt : j < 3
        · obtain ⟨v0, _, x2, _, hcell⟩ := (HSP.out.keep HB.out).cell (show k + j < k + 3 by omega)
          obtain ⟨q, t, _, rfl, hrow⟩ := (hcell (by omega)).2 (by omega)
          have y0 := (row_cell hrow 0).trans (by rfl)
          have y1 := (row_cell hrow 1).trans (by rfl)
          clear hcell hrow
          go_wp2_with fail
          go_roundw
          case rel => exact ⟨j + 1, by omega, by go_num, HB.out⟩
          case measure => simp [intOf]; omega
        · obtain rfl : j = 3 := by omega
          go_wp2_with fail
          exact ⟨rfl, .bool true, by kernel_rfl, _, rfl, rfl, HB.out⟩
theorem list_choice {α : Type} {F : Nat → α → Prop} : ∀ (n : Nat), (∀ j, j < n → ∃ r, F j r) → ∃ l : List α, l.length = n ∧ ∀ j r, l[j]? = some r → F j r
  | 0, _ => ⟨[], rfl, fun j r h => by simp at h⟩
  | n + 1, h => by
    obtain ⟨l, h1, h2⟩ := list_choice n fun j hj => h j (by omega)
    obtain ⟨x, hx⟩ := h n (by omega)
    refine ⟨l ++ [x], by simp [h1], fun j r hj => ?_⟩
    by_cases hjn : j < n
    · rw [List.getElem?_append_left (by omega)] at hj
      exact h2 j r hj
    · rw [List.getElem?_append_right (by omega)] at hj
      have h0 : j - l.length = 0 := by
        have := (List.getElem?_eq_some_iff.1 hj).1
        simp at this
        omega
      rw [h0] at hj
      obtain rfl : x = r := by simpa using hj
      rwa [show j = n by omega]
theorem map_of_each {α : Type} {β : Type} {f : α → β} {us vs : List α} (hl : us.length = vs.length) (h : ∀ (j : Nat) r s, us[j]? = some r → vs[j]? = some s → f r = f s) : us.map f = vs.map f := by
  refine List.ext_getElem (l₁ := us.map f) (l₂ := vs.map f) (by rw [List.length_map, List.length_map, hl]) fun i hi hi2 => ?_
  rw [List.length_map] at hi hi2
  rw [List.getElem_map, List.getElem_map]
  exact h i us[i] vs[i] (List.getElem?_eq_getElem hi) (List.getElem?_eq_getElem hi2)
/-- What SpareRows made is rows of the same bytes. -/
theorem SpRows.rows {w : World} {g n : Nat} {vs : List Row1} {C : Array Value} (h : SpRows w g vs n (n + 3) C) (hn : vs.length = n) : ∃ us : List Row1, us.length = n ∧ RowsIn w (some ⟨g, 0, none⟩) us ∧ us.map (·.2.2) = vs.map (·.2.2) := by
  obtain ⟨us, h1, h2⟩ := list_choice (α := Row1) (F := fun j r => (∃ s, vs[j]? = some s ∧ r.2.2 = s.2.2) ∧ w.cell? ⟨g, j, none⟩ = some (.slice r.1 r.2.2.length r.2.1) ∧ BytesIn w r.1 r.2.2 ∧ r.1 ≠ none) n fun j hj => by
    obtain ⟨s, hs⟩ : ∃ s, vs[j]? = some s := ⟨_, List.getElem?_eq_getElem (by omega)⟩
    obtain ⟨v, _, hc, _, hcell⟩ := h.cell (show j < n + 3 by omega)
    obtain ⟨q, t, _, rfl, hrow⟩ := (hcell (by omega)).1 s hs
    refine ⟨(some ⟨q, 0, none⟩, s.2.2.length + 80, s.2.2), ⟨s, hs, rfl⟩, hc, BytesIn.vals 0 hrow ?_, by simp⟩
    rw [List.drop_zero, spareL]
    exact List.take_left' rfl
  refine ⟨us, h1, ⟨fun k r hr => ⟨_, rfl, ?_, ?_⟩, fun r hr => ?_⟩, map_of_each (by omega) fun j r s hr hs => ?_⟩
  · obtain ⟨⟨t, h3⟩, _⟩ := h
    exact (Array.getElem?_eq_some_iff.1 h3).1
  · rw [add_lit]
    exact (h2 k r hr).2.1
  · obtain ⟨j, hj, rfl⟩ := List.getElem_of_mem hr
    have h3 := h2 j _ (List.getElem?_eq_getElem hj)
    exact ⟨h3.2.2.1, fun h => absurd h h3.2.2.2⟩
  · obtain ⟨s', h3, h4⟩ := (h2 j r hr).1
    rw [hs] at h3
    rw [h4, Option.some.inj h3]
theorem frameQ_same {k : Int} {us vs : List Row1} (h : us.map (·.2.2) = vs.map (·.2.2)) : frameQ k us = frameQ k vs := by
  have hl : us.length = vs.length := by simpa using congrArg List.length h
  have hf : flat us = flat vs := by rw [flat, flat, h]
  have ha : (∀ r ∈ us, r.2.2.length = 88) ↔ (∀ r ∈ vs, r.2.2.length = 88) := by
    have e : ∀ ws : List Row1, (∀ r ∈ ws, r.2.2.length = 88) ↔ ∀ l ∈ ws.map (·.2.2), l.length = 88 := fun ws => ⟨fun h l hl => by obtain ⟨r, hr, rfl⟩ := List.mem_map.1 hl; exact h r hr, fun h r hr => h _ (List.mem_map.2 ⟨r, hr, rfl⟩)⟩
    rw [e, e, h]
  simp only [frameQ, hl, hf, ha]
section
variable {o : Oper} {w : World} {a : Act} {Q : Exit → Act → World → Prop} {ops : Array Oper} {rest : List Oper}
/-- append(v, x...): slices each in a block of its own. -/
theorem wpList_appFs {B : Nat} {v : Value} {vs : List Row1} (us : List Row1) (x y : Operand) (hgd : o.guard = none) (ho : o.op = .call { callee := .builtin .append, args := #[x, y], argTypes := #[40, 40] }) {p : Option Addr} {n c : Nat} (hx : a.eval x = v) (hy : a.eval y = .slice p n c)
    (hun : us.length = n) (hB : B ≤ w.heap.size) (hv : FrV w B v vs) (hui : RowsIn w p us) (hpu : p = none → c = 0) (hr : ∀ r ∈ us, Bts w B (rowV r) r.2.2 ∧ El1 w r ∧ ∀ a, r.1 = some a → some a.block ≠ v.ownBlock) (hpw : us.Pairwise fun r s => pb r.1 = none ∨ pb r.1 ≠ pb s.1)
    (hcr : ∀ s ∈ vs, ∀ r ∈ us, pb s.1 = none ∨ pb s.1 ≠ pb r.1) (hbig : vs.length + n ≤ 4398046511104)
    (hK : ∀ v' w', FrV w' B v' (vs ++ us) → w.grownBy w' v.ownBlock → (v'.ownBlock = v.ownBlock ∨ ∃ k, v'.ownBlock = some k ∧ w.heap.size ≤ k) → wpList Tryd.prog ops Q rest (a.put o.dst v') w') : wpList Tryd.prog ops Q (o :: rest) a w := by
  obtain ⟨ie, hie, hz, hs, hb⟩ := slice_info
  cases p with
  | none =>
    obtain rfl := hpu rfl
    have hu0 : us = [] := by
      cases us with
      | nil => rfl
      | cons r t =>
        obtain ⟨a, h1, _⟩ := hui.1 0 r rfl
        cases h1
    subst hu0
    obtain rfl : 0 = n := hun
    refine wpList_step fun K hKK => if_always hgd (wp_append_run x y _ ho hx hy (run_append_owned_none (P := Tryd.prog) w B _ _ _ ie 1 Tryd.underlying40 hie v _ _ hv.1.1) (hKK _ _ (hK v w ?_ ⟨rfl, rfl, rfl, Nat.le_refl _, fun _ _ _ => rfl⟩ (.inl rfl))))
    rw [List.append_nil]
    exact hv
  | some ad =>
    obtain ⟨v', w', h3, h4, h5, _, h6⟩ := run_append_own_at (P := Tryd.prog) w B 40 o.type 26 ie (.slice none 0 0) 1 24 Tryd.underlying40 hie hz hs hb rfl (by decide) v vs.length _ hv.1.1 ad n c (us.map rowV) (by simp [hun]) (fun j u hj => by
      rw [List.getElem?_map] at hj
      obtain ⟨r, hr1, rfl⟩ := Option.map_eq_some_iff.1 hj
      obtain ⟨a2, h1, _, h2⟩ := hui.1 j r hr1
      have h1' : ad = a2 := Option.some.inj h1
      rw [h1']
      exact h2) (fun u hu => by obtain ⟨r, _, rfl⟩ := List.mem_map.1 hu; rfl) (by simp only [maxLen]; omega) (by omega) hB
    have h7 : v'.ownBlock = v.ownBlock ∨ ∃ k, v'.ownBlock = some k ∧ w.heap.size ≤ k := h6.imp id fun e => ⟨_, e, Nat.le_refl _⟩
    have hne : ∀ q : Row1, El1 w q → (∀ a, q.1 = some a → some a.block ≠ v.ownBlock) → El1 w' q ∧ ∀ a, q.1 = some a → some a.block ≠ v'.ownBlock := fun q hq hf => ⟨hq.far h5 hf, fun a ha e => by
      rcases h7 with h7 | ⟨k, h7, hk⟩
      · exact hf a ha (e.trans h7)
      · rw [h7] at e
        injection e with e
        have := hq.2.2 a ha
        omega⟩
    have hbt : ∀ q : Row1, Bts w B (rowV q) q.2.2 → (∀ a, q.1 = some a → some a.block ≠ v.ownBlock) → Bts w' B (rowV q) q.2.2 := fun q hq hf => hq.kept h5 (by
      rw [rowV_own]
      cases e : q.1 with
      | none => exact .inl rfl
      | some a => exact .inr (hf a e))
    refine wpList_step fun K hKK => if_always hgd (wp_append_run x y _ ho hx hy h3 (hKK _ _ (hK v' w' ⟨⟨by rw [List.length_append, List.map_append, hun]; exact h4, fun q hq => ?_⟩, fun q hq => ?_, ?_⟩ h5 h7)))
    · rcases List.mem_append.1 hq with hq | hq
      · exact hne q (hv.1.2 q hq).1 (hv.1.2 q hq).2
      · exact hne q (hr q hq).2.1 (hr q hq).2.2
    · rcases List.mem_append.1 hq with hq | hq
      · exact hbt q (hv.2.1 q hq) (hv.1.2 q hq).2
      · exact hbt q (hr q hq).1 (hr q hq).2.2
    · exact List.pairwise_append.2 ⟨hv.2.2, hpw, hcr⟩
end
/-- Lists that Apart may be asked of. -/
def ApIn (w : World) (B : Nat) (p : Option Addr) (us : List Row1) : Prop :=
  RowsIn w p us ∧ (∀ r ∈ us, Bts w B (rowV r) r.2.2 ∧ El1 w r ∧ r.2.2.length ≤ 88 ∧ ∀ a, p = some a → pb r.1 ≠ some a.block) ∧ us.Pairwise fun r s => pb r.1 = none ∨ pb r.1 ≠ pb s.1
theorem apartRows_any (b w : World) (p : Option Addr) (n c : Nat) (us : List Row1) (hn : us.length = n) (h60 : n ≤ 60) (hb : Below b.heap.size b w) (h : ApIn w b.heap.size p us) :
    Calls Tryd.prog 23 #[.slice p n c] w (fun e w' => e = .returned (.bool true) ∧ Below b.heap.size b w') := by
  obtain ⟨hri, hr, hpw⟩ := h
  have hg : ∀ j, (hj : j < n) → us.getD j (none, 0, []) = us[j]'(by omega) := fun j hj => by
    rw [List.getD_eq_getElem?_getD, List.getElem?_eq_getElem (by omega)]; rfl
  have hm : ∀ j, (hj : j < n) → us[j]'(by omega) ∈ us := fun j hj => List.getElem_mem _
  refine apart_any b w p n c w.heap.size ⟨n, fun j => (us.getD j (none, 0, [])).1, fun j => (us.getD j (none, 0, [])).2.2.length, fun j => (us.getD j (none, 0, [])).2.1⟩ rfl ⟨by simp only; omega, fun j hj => ?_, fun i j hi hj hij => ?_⟩ hb (Nat.le_refl _) (fun k hk => ?_) (fun j hj => ?_) (fun j hj x e => ?_)
  · simp only at hj ⊢
    rw [hg j hj]
    have := (hr _ (hm j hj)).2.2.1
    omega
  · simp only at hi hj ⊢
    rw [hg i hi, hg j hj]
    rcases Nat.lt_or_gt_of_ne hij with h | h
    · exact List.pairwise_iff_getElem.1 hpw i j (by omega) (by omega) h
    · rcases List.pairwise_iff_getElem.1 hpw j i (by omega) (by omega) h with h1 | h1
      · rw [h1]
        cases pb (us[i]'(by omega)).1 <;> simp
      · exact .inr fun e => h1 e.symm
  · simp only at hk
    obtain ⟨a, rfl, h1, h2⟩ := hri.1 k _ (List.getElem?_eq_getElem (by omega))
    refine ⟨a, rfl, h1, Nat.le_refl _, ?_, fun j hj => ?_⟩
    · rw [h2, Lists.V]
      simp only [hg k hk]
    · simp only at hj ⊢
      rw [hg j hj]
      exact (hr _ (hm j hj)).2.2.2 a rfl
  · simp only at hj
    refine ⟨(us[j]'(by omega)).2.2, ?_, ?_⟩
    · simp only [hg j hj]
    · rw [Lists.V]
      simp only [hg j hj]
      exact .inl (hr _ (hm j hj)).1
  · simp only at hj e
    rw [hg j hj] at e
    cases e2 : (us[j]'(by omega)).1 with
    | none => rw [e2] at e; cases e
    | some a =>
      rw [e2] at e
      injection e with e
      rw [← e]
      exact (hr _ (hm j hj)).2.1.2.2 a e2
/-- The first of them. -/
theorem FrV.apart {w : World} {B : Nat} {p : Option Addr} {n c : Nat} {us : List Row1} (h : FrV w B (.slice p n c) us) (h88 : ∀ r ∈ us, r.2.2.length ≤ 88) (k : Nat) : ApIn w B p (us.take k) := by
  obtain ⟨p', c', e, hri, _⟩ := h.1.open
  injection e with e1 e2 e3
  subst e1
  refine ⟨⟨fun j r hr => ?_, fun r hr => hri.2 r (List.mem_of_mem_take hr)⟩, fun r hr => ?_, h.2.2.sublist (List.take_sublist k us)⟩
  · rw [List.getElem?_take] at hr
    split at hr
    · exact hri.1 j r hr
    · cases hr
  · have hm := List.mem_of_mem_take hr
    refine ⟨h.2.1 r hm, (h.1.2 r hm).1, h88 r hm, fun a ha e => ?_⟩
    cases e2 : r.1 with
    | none => rw [e2] at e; cases e
    | some a2 =>
      rw [e2] at e
      have h1 := (h.1.2 r hm).2 a2 e2
      rw [pb_own, ha] at h1
      exact h1 e
theorem RowsOwn.cap {w : World} {B : Nat} {p : Option Addr} {n c : Nat} {vs : List Row1} (h : RowsOwn w B (.slice p n c) vs) : vs.length ≤ c := by
  rcases h.1.2 with ⟨e, h0⟩ | ⟨g, c', cur, e, hb, hg, hnc, hcm, hcs, htk⟩
  · rw [h0]; exact Nat.zero_le _
  · injection e with e1 e2 e3
    omega
theorem frameQ_short (k : Int) (vs : List Row1) : (frameQ k vs).1.length ≤ 1099511627776 := by
  unfold frameQ
  split
  · split
    · split
      · rename_i h1 h2 h3
        simp only [List.length_append, le4_len, flat, flat88 vs h3]
        omega
      · simp
    · simp
  · simp
theorem frameP_88 (b : List Int) : ∀ l ∈ (frameP b).2.1, l.length ≤ 88 := fun l hl => by
  unfold frameP at hl
  split at hl
  · obtain ⟨i, _, rfl⟩ := List.mem_map.1 hl
    rw [rowAt, List.length_take]
    omega
  · cases hl
theorem frameP_256 (b : List Int) : (frameP b).2.1.length ≤ 256 := by
  unfold frameP
  split
  · rename_i h
    have := h.2.2.2.1
    simp only [rowsOf, List.length_map, List.length_range]
    omega
  · simp
theorem spareL_byt {l : List Int} (h : Byt l) : Byt (spareL l) := fun x hx => by
  rcases List.mem_append.1 hx with h1 | h1
  · exact h x h1
  · obtain ⟨j, _, rfl⟩ := List.mem_map.1 h1
    rw [mrk, IntKind.wrap_u8]
    omega
theorem apart2_any (b w : World) (pa qb : Option Addr) (l : List Int) (n ca cb : Nat) (hn : l.length = n) (hb : Below b.heap.size b w) (ha : Bts w b.heap.size (.slice pa n ca) l) (hb2 : Bts w b.heap.size (.slice qb n cb) l) (hne : pb pa = none ∨ pb pa ≠ pb qb) (hl : n ≤ 1099511627776) :
    Calls Tryd.prog 23 #[.slice (some ⟨w.heap.size, 0, none⟩) 2 2] (w.alloc (.cells #[.slice pa n ca, .slice qb n cb] 26)) (fun e w2 => e = .returned (.bool true) ∧ Below b.heap.size b w2) := by
  subst hn
  have lta : ∀ x, pb pa = some x → x < w.heap.size := fun x e => (ha.lt x (by rw [pb_own]; exact e)).2
  have ltb : ∀ x, pb qb = some x → x < w.heap.size := fun x e => (hb2.lt x (by rw [pb_own]; exact e)).2
  refine apart_any b _ _ 2 2 (w.alloc (.cells #[.slice pa l.length ca, .slice qb l.length cb] 26)).heap.size ⟨2, two pa qb, fun _ => l.length, two ca cb⟩ rfl ⟨(show 2 ≤ 1000 by decide), fun j hj => hl, fun i j hi hj hij => ?_⟩ (hb.alloc hb.size _) (Nat.le_refl _) (fun k hk => ?_) (fun j hj => ⟨l, rfl, ?_⟩) (fun j hj x e => ?_)
  · rcases (show i = 0 ∧ j = 1 ∨ i = 1 ∧ j = 0 by simp only at hi hj; omega) with ⟨rfl, rfl⟩ | ⟨rfl, rfl⟩
    · exact hne
    · rcases hne with h1 | h1
      · show pb qb = none ∨ pb qb ≠ pb pa
        rw [h1]
        cases pb qb <;> simp
      · exact .inr fun e => h1 e.symm
  · refine ⟨_, rfl, by simp, Nat.le_refl _, ?_, fun j hj e => ?_⟩
    · rw [add_lit, cell_of_row _ _ k _ _ _ (heap_alloc_new w _)]
      rcases (show k = 0 ∨ k = 1 by simp only at hk; omega) with rfl | rfl <;> rfl
    · rcases (show j = 0 ∨ j = 1 by simp only at hj; omega) with rfl | rfl
      · have h1 := lta _ e; simp only at h1; omega
      · have h1 := ltb _ e; simp only at h1; omega
  · rcases (show j = 0 ∨ j = 1 by simp only at hj; omega) with rfl | rfl
    · exact .inl (ha.alloc _)
    · exact .inl (hb2.alloc _)
  · rw [World.size_alloc]
    rcases (show j = 0 ∨ j = 1 by simp only at hj; omega) with rfl | rfl
    · have := lta _ e; omega
    · have := ltb _ e; omega
theorem eq_own3 {p q : Option Addr} {n c c' : Nat} {w : World} {l : List Int} (hn : l.length = n) (h1 : BytesIn w p l) (h2 : BytesIn w q l) (hm : n ≤ 1099511627776) : Calls Tryd.prog 21 #[.slice p n c, .slice q n c'] w (Gives (· = .bool true) w) :=
  (eqBytes_any p q l l n n c c' w hn hn h1 h2 (by omega)).mono fun _ _ ⟨r, e1, e2, e3⟩ => ⟨r, e1, e2.trans (by rw [decide_eq_true rfl]), e3⟩
/-- Rows of the same bytes are the same. -/
theorem eqRows_of {p q : Option Addr} {n c d : Nat} {vs us : List Row1} {ls : List (List Int)} {w : World} (hv : vs.map (·.2.2) = ls) (hu : us.map (·.2.2) = ls) (hn : ls.length = n) (h : RowsIn w p vs) (h2 : RowsIn w q us) (h256 : n ≤ 256) (h88 : ∀ l ∈ ls, l.length ≤ 88) :
    Calls Tryd.prog 26 #[.slice p n c, .slice q n d] w (Gives (· = .bool true) w) :=
  eqRows_same p q n c d vs us w (by rw [← hn, ← hv, List.length_map]) (by rw [← hn, ← hu, List.length_map]) h h2 (by omega) (fun j r s h1 h2 => by
    have e1 := congrArg (fun l => l[j]?) (hv.trans hu.symm)
    simp only [List.getElem?_map, h1, h2, Option.map_some] at e1
    exact Option.some.inj e1) (fun r hr => by
    have := h88 _ (by rw [← hv]; exact List.mem_map.2 ⟨r, hr, rfl⟩)
    omega)
theorem rowsIn_of {w : World} {B : Nat} {p : Option Addr} {n c : Nat} {vs : List Row1} (h : FrV w B (.slice p n c) vs) : RowsIn w p vs := by
  obtain ⟨p', c', e, hri, _⟩ := h.1.open
  injection e with e1 e2 e3
  subst e1
  exact hri
set_option maxHeartbeats 16000000 in
set_option maxRecDepth 100000 in
theorem codecFrames_any (k : Int) (p q : Option Addr) (n c m d : Nat) (vs : List Row1) (b : List Int) (w : World) (hh : Handle w) (hn : vs.length = n) (h : RowsIn w p vs) (hnm : n ≤ 5864062014805) (hl : ∀ r ∈ vs, r.2.2.length ≤ 140737488355328)
    (lb : b.length = m) (bb : Byt b) (ib : BytesIn w q b) (zb : m ≤ 140737488355328) (cb : m ≤ d) :
    Calls Tryd.prog 4 #[.int .i64 k, .slice p n c, .slice q m d] w (fun e w' => e = .returned (.bool true) ∧ Below w.heap.size w w') := by
  obtain ⟨L, E, hF⟩ : ∃ L E, frameQ k vs = (L, E) := ⟨_, _, rfl⟩
  have HLS := Lib.hid (show L.length ≤ 1099511627776 from by have h1 := frameQ_short k vs; rwa [hF] at h1)
  have HSR := Lib.hid (spareRows_any p n c vs w hn h hnm hl)
  have HFC := Lib.hid (show ∀ w' g C, SpRows w' g vs n (n + 3) C → Below w.heap.size w w' → Calls Tryd.prog 19 #[.int .i64 k, .slice (some ⟨g, 0, none⟩) n (n + 3)] w' (Ans w' L E) from fun w' g C h1 h2 => by
    obtain ⟨us, u1, u2, u3⟩ := h1.rows hn
    have h4 := frame_any k (some ⟨g, 0, none⟩) n (n + 3) us w' (hh.keep h2) u1 u2
    rwa [frameQ_same u3, hF] at h4)
  have HFR := Lib.hid (show ∀ w', Below w.heap.size w w' → Calls Tryd.prog 20 #[.int .i64 k, .slice p n c] w' (Ans w' L E) from fun w' h2 => by
    have h4 := frameR_any k p n c vs w' hn (h.under h2 (Nat.le_refl _))
    rwa [hF] at h4)
  have HKR := Lib.hid (show ∀ w' g C, SpRows w' g vs n (n + 3) C → Below w.heap.size w w' → Calls Tryd.prog 22 #[.slice (some ⟨g, 0, none⟩) n (n + 3), .slice p n c] w' (Gives (· = .bool true) w') from fun w' g C h1 h2 => keptRows_any g C p n c vs w' hn (h.under h2 (Nat.le_refl _)) hnm hl h1)
  obtain ⟨y, ls, E2, hP⟩ : ∃ y ls E2, frameP b = (y, ls, E2) := ⟨_, _, _, rfl⟩
  have HN256 := Lib.hid (show ls.length ≤ 256 from by have h1 := frameP_256 b; rwa [hP] at h1)
  have H88 := Lib.hid (show ∀ l ∈ ls, l.length ≤ 88 from by have h1 := frameP_88 b; rwa [hP] at h1)
  have HLB := Lib.hid lb
  have HZB := Lib.hid zb
  have HBB := Lib.hid bb
  have HPC := Lib.hid (show ∀ w' g t, w'.heap[g]? = some (.cells (vals (spareL b)) t (0, 0)) → Calls Tryd.prog 24 #[.slice (some ⟨g, 0, none⟩) m (m + 80)] w' (AnsR w' y ls E2) from fun w' g t h1 => by
    have h4 := parseFrame_any (some ⟨g, 0, none⟩) m (m + 80) b w' lb bb (BytesIn.vals 0 h1 (by rw [List.drop_zero, spareL]; exact List.take_left' rfl)) (fun h => by cases h) zb
    rwa [hP] at h4)
  have HPR := Lib.hid (show ∀ w', Below w.heap.size w w' → Calls Tryd.prog 25 #[.slice q m d] w' (AnsR w' y ls E2) from fun w' h1 => by
    have h4 := parseFrameR_any q m d b w' lb bb (ib.under h1 (Nat.le_refl _)) cb
    rwa [hP] at h4)
  have HSB := Lib.hid (show ∀ w', Below w.heap.size w w' → Calls Tryd.prog 8 #[.slice q m d] w' (NewBytes w' (spareL b) m) from fun w' h1 => spare_any q b m d w' lb (ib.under h1 (Nat.le_refl _)) zb)
  have HKB := Lib.hid (show ∀ w' g t, w'.heap[g]? = some (.cells (vals (spareL b)) t (0, 0)) → Below w.heap.size w w' → Calls Tryd.prog 27 #[.slice (some ⟨g, 0, none⟩) m (m + 80), .slice q m d] w' (Gives (· = .bool true) w') from fun w' g t h1 h2 => kept_any g t q b m d w' lb h1 (ib.under h2 (Nat.le_refl _)) zb)
  have T1 : True := trivial
  have T2 : True := trivial
  have T3 : True := trivial
  have T4 : True := trivial
  have T5 : True := trivial
  have T1' : True := trivial
  have T2' : True := trivial
  have T3' : True := trivial
  clear hh hn h hnm hl lb bb ib zb cb hF hP
  go_enter Tryd.func4, Tryd.ntmps4
  go_upto_if 80 with (first
    | (go_at_call 18; refine HSR.out.mono ?_; rintro e w1 ⟨hb, g, C, _, rfl, hsp⟩; have HSP := Lib.hid hsp; have HS1 := Lib.hid hsp; have HB := Lib.hid hb; have HW1 := Lib.hid hb; have HB1 := Lib.hid (Below.refl w1.heap.size w1); clear hb hsp)
    | (go_at_call 19; refine ((fun (_ : True) => HFC.out _ g C HSP.out HB.out) T1).mono ?_; rintro e w2 ⟨hb, v2, rfl, hv2⟩; obtain ⟨p2, c2, rfl, hi2, hp2, ho2, hl2, hx2⟩ := hv2.open; have HV2 := Lib.hid (hv2.low HB1.out.size); replace HSP := Lib.hid (HSP.out.keep hb); replace HB := Lib.hid (below_call hb HB.out); replace HB1 := Lib.hid (below_call hb HB1.out); clear hb hv2 hi2 hp2 ho2 hl2 hx2 T1)
    | (go_at_call 19; refine (HFC.out _ g C HSP.out HB.out).mono ?_; rintro e w3 ⟨hb, v3, rfl, hv3⟩; obtain ⟨p3, c3, rfl, hi3, hp3, ho3, hl3, hx3⟩ := hv3.open; have HNE := Lib.hid (show pb p2 = none ∨ pb p2 ≠ pb p3 from by
        cases e2 : pb p2 with
        | none => exact .inl rfl
        | some x =>
          refine .inr fun e3 => ?_
          have h1 := (HV2.out.lt x (by rw [pb_own]; exact e2)).2
          have h2 := (hv3.lt x (by rw [pb_own]; exact e3.symm)).1
          omega); have HV3 := Lib.hid (hv3.low HB1.out.size); replace HV2 := Lib.hid (HV2.out.under hb); replace HSP := Lib.hid (HSP.out.keep hb); replace HB := Lib.hid (below_call hb HB.out); replace HB1 := Lib.hid (below_call hb HB1.out); clear hb hv3 hi3 hp3 ho3 hl3 hx3)
    | (go_at_call 20; refine (HFR.out _ HB.out).mono ?_; rintro e w4 ⟨hb, v4, rfl, hv4⟩; obtain ⟨p4, c4, rfl, hi4, hp4, ho4, hl4, hx4⟩ := hv4.open; have BI4 := Lib.hid hi4; replace HV2 := Lib.hid (HV2.out.under hb); replace HV3 := Lib.hid (HV3.out.under hb); replace HSP := Lib.hid (HSP.out.keep hb); replace HB := Lib.hid (below_call hb HB.out); replace HB1 := Lib.hid (below_call hb HB1.out); clear hb hv4 hi4 hp4 ho4 hl4 hx4)
    | (go_at_call 21; refine ((fun (_ : True) => eq_own3 (l := L) rfl HV2.out.bytesIn BI4.out HLS.out) T2).mono ?_; rintro e w5 ⟨_, rfl, rfl, hb⟩; replace BI4 := Lib.hid (BI4.out.keep hb); replace HV2 := Lib.hid (HV2.out.under hb); replace HV3 := Lib.hid (HV3.out.under hb); replace HSP := Lib.hid (HSP.out.keep hb); replace HB := Lib.hid (below_call hb HB.out); replace HB1 := Lib.hid (below_call hb HB1.out); clear hb T2)
    | (go_at_call 21; refine (eq_own3 (l := L) rfl HV3.out.bytesIn BI4.out HLS.out).mono ?_; rintro e w6 ⟨_, rfl, rfl, hb⟩; replace HV2 := Lib.hid (HV2.out.under hb); replace HV3 := Lib.hid (HV3.out.under hb); replace HSP := Lib.hid (HSP.out.keep hb); replace HB := Lib.hid (below_call hb HB.out); replace HB1 := Lib.hid (below_call hb HB1.out); clear hb)
    | (go_at_call 22; refine ((fun (_ : True) => HKR.out _ g C HSP.out HB.out) T3).mono ?_; rintro e w7 ⟨_, rfl, rfl, hb⟩; replace HV2 := Lib.hid (HV2.out.under hb); replace HV3 := Lib.hid (HV3.out.under hb); replace HSP := Lib.hid (HSP.out.keep hb); replace HB := Lib.hid (below_call hb HB.out); replace HB1 := Lib.hid (below_call hb HB1.out); clear hb T3)
    | (go_at_call 23; refine (apart2_any w1 w7 p2 p3 L L.length c2 c3 rfl HB1.out HV2.out HV3.out HNE.out HLS.out).mono ?_; rintro e w8 ⟨rfl, hb⟩; replace HSP := Lib.hid (HS1.out.keep hb); replace HB := Lib.hid (below_call hb HW1.out); clear hb HV2 HV3 HB1)
    | (go_at_call 22; refine (HKR.out _ g C HSP.out HB.out).mono ?_; rintro e w9 ⟨_, rfl, rfl, hb⟩; replace HB := Lib.hid (below_call hb HB.out); clear hb))
  go_cut [] (fun wc => Below w.heap.size w wc)
  case first =>
    go_wp2_with fail
    go_meet
    case rel => exact HB.out
  case rest =>
    clear HSP HS1 HB HW1 HSR HFC HFR HKR HLS HNE BI4
    have HB := Lib.hid hcut
    clear hcut
    have HNL := Lib.hid (show ∀ us : List Row1, us.map (·.2.2) = ls → us.length = ls.length from fun us h => by rw [← h, List.length_map])
    generalize hN : ls.length = N at *
    have HNN := Lib.hid hN
    clear hN
    go_wp2_with first
      | (go_at_call 8; refine (HSB.out _ HB.out).mono ?_; rintro e w6 ⟨hb, g2, t2, rfl, hg2, hr2⟩; rw [spareL_len, HLB.out]; have HR6 := Lib.hid hr2; have HR := Lib.hid hr2; have HG2 := Lib.hid (Nat.le_trans HB.out.size hg2); have HB2 := Lib.hid (Below.refl w6.heap.size w6); replace HB := Lib.hid (below_call hb HB.out); have HW6 := Lib.hid HB.out; clear hb hg2 hr2)
      | (go_at_call 24; refine ((fun (_ : True) => HPC.out _ g2 t2 HR.out) T1').mono ?_; rintro e w7 ⟨hb, v7, us1, rfl, hf, hu⟩; obtain ⟨p7, c7, rfl, hri, hpz⟩ := hf.1.open; rw [HNL.out us1 hu] at hf ⊢; have HF1 := Lib.hid (hf.low HB2.out.size); have HU1 := Lib.hid hu; have HP7 := Lib.hid hpz; replace HR := Lib.hid (row_call hb HR.out); replace HB2 := Lib.hid (below_call hb HB2.out); clear hb hf hu hri hpz T1')
      | (go_at_call 24; refine ((fun (_ : True) => HPC.out _ g2 t2 HR.out) T2').mono ?_; rintro e w8 ⟨hb, v8, us2, rfl, hf, hu⟩; obtain ⟨p8, c8, rfl, hri, hpz⟩ := hf.1.open; rw [HNL.out us2 hu] at hf ⊢; have HX := Lib.hid (show ∀ s ∈ us1, ∀ r ∈ us2, pb s.1 = none ∨ pb s.1 ≠ pb r.1 from fun s hs r hr => by
          cases e2 : pb s.1 with
          | none => exact .inl rfl
          | some x =>
            refine .inr fun e3 => ?_
            have h1 := ((HF1.out.2.1 s hs).lt x (by rw [rowV_own]; exact e2)).2
            have h2 := ((hf.2.1 r hr).lt x (by rw [rowV_own]; exact e3.symm)).1
            omega); have HF2 := Lib.hid (hf.low HB2.out.size); have HU2 := Lib.hid hu; have HP8 := Lib.hid hpz; replace HF1 := Lib.hid (HF1.out.under hb); replace HR := Lib.hid (row_call hb HR.out); replace HB2 := Lib.hid (below_call hb HB2.out); clear hb hf hu hri hpz T2')
      | (go_at_call 25; refine (HPR.out _ (below_call HB2.out HW6.out)).mono ?_; rintro e w9 ⟨hb, v9, us3, rfl, hf, hu⟩; obtain ⟨p9, c9, rfl, hri, hpz⟩ := hf.1.open; rw [HNL.out us3 hu]; have HR9 := Lib.hid hri; have HU3 := Lib.hid hu; replace HF1 := Lib.hid (HF1.out.under hb); replace HF2 := Lib.hid (HF2.out.under hb); replace HR := Lib.hid (row_call hb HR.out); replace HB2 := Lib.hid (below_call hb HB2.out); clear hb hf hu hri hpz)
      | (go_at_call 26; refine ((fun (_ : True) => eqRows_of HU1.out HU3.out HNN.out (rowsIn_of HF1.out) HR9.out HN256.out H88.out) T3').mono ?_; rintro e w10 ⟨_, rfl, rfl, hb⟩; replace HR9 := Lib.hid (HR9.out.under hb (Nat.le_refl _)); replace HF1 := Lib.hid (HF1.out.under hb); replace HF2 := Lib.hid (HF2.out.under hb); replace HR := Lib.hid (row_call hb HR.out); replace HB2 := Lib.hid (below_call hb HB2.out); clear hb T3')
      | (go_at_call 26; refine (eqRows_of HU2.out HU3.out HNN.out (rowsIn_of HF2.out) HR9.out HN256.out H88.out).mono ?_; rintro e w11 ⟨_, rfl, rfl, hb⟩; replace HF1 := Lib.hid (HF1.out.under hb); replace HF2 := Lib.hid (HF2.out.under hb); replace HR := Lib.hid (row_call hb HR.out); replace HB2 := Lib.hid (below_call hb HB2.out); clear hb HR9 HU3)
      | (go_at_call 27; refine (HKB.out _ g2 t2 HR.out (below_call HB2.out HW6.out)).mono ?_; rintro e w12 ⟨_, rfl, rfl, hb⟩; replace HF1 := Lib.hid (HF1.out.under hb); replace HF2 := Lib.hid (HF2.out.under hb); replace HB2 := Lib.hid (below_call hb HB2.out); clear hb HR HPR)
      | (at_builtin; (refine held_append _ _ rfl ?_))
    -- all = append(nil, l...)
    have HL1 := Lib.hid (HNL.out us1 HU1.out)
    have HL2 := Lib.hid (HNL.out us2 HU2.out)
    refine wpList_appFs us1 _ _ rfl rfl (B := w6.heap.size) (v := .slice none 0 0) (vs := []) rfl rfl HL1.out HB2.out.size (frv_nil _ _) (rowsIn_of HF1.out) HP7.out (fun r hr => ⟨HF1.out.2.1 r hr, (HF1.out.1.2 r hr).1, fun a ha e => by cases e⟩) HF1.out.2.2 (fun s hs => by cases hs) (by simp only [List.length_nil]; have := HN256.out; omega) fun v13 w13 h1 h2 h3 => ?_
    rw [List.nil_append] at h1
    have HA1 := Lib.hid h1
    have HO1 := Lib.hid (show ∀ r ∈ us2, ∀ a, r.1 = some a → some a.block ≠ v13.ownBlock from fun r hr a ha e => by
      rcases h3 with h3 | ⟨x, h3, h4⟩
      · rw [h3] at e; cases e
      · rw [h3] at e
        injection e with e
        have := (HF2.out.1.2 r hr).1.2.2 a ha
        omega)
    have HF3 := Lib.hid (HF2.out.far h2 fun x hx => by cases hx)
    have HB3 := Lib.hid (HB2.out.grown h2 HB2.out.size fun x hx => by cases hx)
    clear h1 h2 h3 HF1 HF2 HB2 HP7
    go_wp2_with (at_builtin; (refine held_append _ _ rfl ?_))
    -- all = append(all, m...)
    refine wpList_appFs us2 _ _ rfl rfl (B := w6.heap.size) (v := v13) (vs := us1) rfl rfl HL2.out HB3.out.size HA1.out (rowsIn_of HF3.out) HP8.out (fun r hr => ⟨HF3.out.2.1 r hr, (HF3.out.1.2 r hr).1, HO1.out r hr⟩) HF3.out.2.2 HX.out (by rw [HL1.out]; have := HN256.out; omega) fun v14 w14 h1 h2 h3 => ?_
    have HB4 := Lib.hid (HB3.out.grown h2 HB3.out.size fun x hx => (HA1.out.1.lt x hx).1)
    obtain ⟨us, hus⟩ : ∃ us, us = us1 ++ us2 := ⟨_, rfl⟩
    rw [← hus] at h1
    have H8 := Lib.hid (show ∀ r ∈ us, r.2.2.length ≤ 88 from fun r hr => by
      rw [hus] at hr
      rcases List.mem_append.1 hr with hr | hr
      · exact H88.out _ (by rw [← HU1.out]; exact List.mem_map.2 ⟨r, hr, rfl⟩)
      · exact H88.out _ (by rw [← HU2.out]; exact List.mem_map.2 ⟨r, hr, rfl⟩))
    obtain ⟨pa, ca, rfl, hri, hpz⟩ := h1.1.open
    have hcap := h1.1.cap
    generalize hM : us.length = M at *
    have HM := Lib.hid hM
    have HA2 := Lib.hid h1
    have HRI := Lib.hid hri
    clear h1 h2 h3 HA1 HF3 HB3 HX HO1 HP8 hM hri hpz hus HU1 HU2 HL1 HL2
    go_upto_if 135 with fail
    go_cut [24] (fun v24 wc => ∃ p' N' c' us', v24 = .slice p' N' c' ∧ us'.length = N' ∧ N' ≤ 60 ∧ ApIn wc w6.heap.size p' us' ∧ Below w6.heap.size w6 wc)
    case first =>
      by_cases h60 : M ≤ 60
      · have h60' : ¬ (60 : Int) < M := by omega
        clear hcap
        go_wp2_with fail
        go_meet
        case rel => exact ⟨pa, M, ca, us.take M, rfl, by rw [List.length_take, HM.out, Nat.min_self], h60, HA2.out.apart H8.out M, HB4.out⟩
      · obtain ⟨aa, rfl⟩ : ∃ a, pa = some a := by
          obtain ⟨a, h1, _⟩ := HRI.out.1 0 (us[0]'(by rw [HM.out]; omega)) (List.getElem?_eq_getElem _)
          exact ⟨a, h1⟩
        have h60' : (60 : Int) < M := by omega
        go_wp2_with fail
        go_meet
        case rel => exact ⟨some aa, 60, ca, us.take 60, rfl, by rw [List.length_take, HM.out]; omega, by decide, HA2.out.apart H8.out 60, HB4.out⟩
    case rest =>
      obtain ⟨p', N', c', us', rfl, hl', h60, hap, hb'⟩ := hcut
      have HAP := Lib.hid hap
      have HL' := Lib.hid hl'
      have H60 := Lib.hid h60
      have HB5 := Lib.hid hb'
      clear hap hl' h60 hb' HA2 HRI HM H8 HB4 hcap
      go_wp2_with first
        | (go_at_call 23; refine (apartRows_any w6 _ p' N' c' us' HL'.out H60.out HB5.out HAP.out).mono ?_; rintro e w15 ⟨rfl, hb⟩; have HR := Lib.hid (row_call hb HR6.out); replace HB := Lib.hid (below_call hb HW6.out); clear hb HB5 HAP HL' H60)
        | (go_at_call 27; refine (HKB.out _ g2 t2 HR.out HB.out).mono ?_; rintro e w16 ⟨_, rfl, rfl, hb⟩; replace HR := Lib.hid (row_call hb HR.out); replace HB := Lib.hid (below_call hb HB.out); clear hb)
        | (go_at_call 24; refine (HPC.out _ g2 t2 HR.out).mono ?_; rintro e w17 ⟨hb, v17, us7, rfl, _, _⟩; have HR17 := Lib.hid (row_call hb HR.out); have HB17 := Lib.hid (below_call hb HB.out); clear hb)
      clear HR HB HPC HKB HSB HR6
      have HLS := Lib.hid (show (spareL b).length = m + 80 by rw [spareL_len, HLB.out])
      have HSY := Lib.hid (spareL_byt HBB.out)
      go_loopw [25] (fun i wr => ∃ (j : Nat) (L : List Int), i = .int .i64 (j : Nat) ∧ j ≤ m + 8 ∧ wr.heap[g2]? = some (.cells (vals L) t2 (0, 0)) ∧ L.length = m + 80 ∧ Byt L ∧ Below w.heap.size w wr) (fun i _ => m + 8 - (intOf i).toNat)
      case atStart => exact ⟨8, _, rfl, by omega, HR17.out, HLS.out, HSY.out, HB17.out⟩
      case round =>
        clear HR17 HB17 HLS HSY
        obtain ⟨j, L, rfl, hj, hrow, hL, hby, hb⟩ := hrel
        have HROW := Lib.hid hrow
        have HLL := Lib.hid hL
        have HBY := Lib.hid hby
        have HB := Lib.hid hb
        clear hrow hL hby hb
        by_cases hlt : j < m
        · have x2 := (row_cell HROW.out j).trans (vals_get (by rw [HLL.out]; omega))
          have x3 := row_free HROW.out j
          have hx := HBY.out.nth j
          generalize nth L j = x at x2 hx
          have hzb := HZB.out
          have hY := bounds_u8 (wf_bits .xor .u8 x 255)
          generalize hYe : bits .xor .u8 x 255 = Y at hY
          have HY := Lib.hid hYe
          have HR2 := Lib.hid (show (wr.setCell ⟨g2, j, none⟩ (.int .u8 (bits .xor .u8 x 255))).heap[g2]? = some (.cells (vals (L.set j Y)) t2 (0, 0)) by
            rw [hYe, heap_setCell_same _ _ _ _ _ _ HROW.out]
            congr 2
            apply Array.ext'
            simp [vals, List.map_set])
          have HB2 := Lib.hid (HB.out.setCell (p := ⟨g2, j, none⟩) HG2.out (.int .u8 (bits .xor .u8 x 255)))
          have HBY2 := Lib.hid (show Byt (L.set j Y) from fun z hz => by
            rcases List.mem_or_eq_of_mem_set hz with h1 | h1
            · exact HBY.out z h1
            · rw [h1]; omega)
          clear hYe hY hx
          go_wp2_with fail
          go_roundw
          case rel => exact ⟨j + 1, _, by go_num, by omega, HR2.out, by rw [List.length_set, HLL.out], HBY2.out, HB2.out⟩
          case measure => simp [intOf]; omega
        · obtain ⟨b2, hb2⟩ : ∃ b2, b2 = L.take m := ⟨_, rfl⟩
          have HB2L := Lib.hid (show b2.length = m by rw [hb2, List.length_take, HLL.out]; omega)
          have HBI := Lib.hid (show ∀ w' t, w'.heap[g2]? = some (.cells (vals L) t (0, 0)) → BytesIn w' (some ⟨g2, 0, none⟩) b2 from fun w' t h1 => BytesIn.vals 0 h1 (by rw [List.drop_zero, HB2L.out, hb2]))
          have HBY2 := Lib.hid (show Byt b2 by rw [hb2]; exact HBY.out.take m)
          obtain ⟨y2, ls2, E3, hP2⟩ : ∃ y ls E, frameP b2 = (y, ls, E) := ⟨_, _, _, rfl⟩
          have HM256 := Lib.hid (show ls2.length ≤ 256 from by have h1 := frameP_256 b2; rwa [hP2] at h1)
          have HM88 := Lib.hid (show ∀ l ∈ ls2, l.length ≤ 88 from by have h1 := frameP_88 b2; rwa [hP2] at h1)
          have HML := Lib.hid (show ∀ us : List Row1, us.map (·.2.2) = ls2 → us.length = ls2.length from fun us h => by rw [← h, List.length_map])
          have HP1 := Lib.hid (show ∀ w' t, w'.heap[g2]? = some (.cells (vals L) t (0, 0)) → Calls Tryd.prog 24 #[.slice (some ⟨g2, 0, none⟩) m (m + 80)] w' (AnsR w' y2 ls2 E3) from fun w' t h1 => by
            have h4 := parseFrame_any (some ⟨g2, 0, none⟩) m (m + 80) b2 w' HB2L.out HBY2.out (HBI.out w' t h1) (fun h => by cases h) HZB.out
            rwa [hP2] at h4)
          have HP2 := Lib.hid (show ∀ w' p c, BytesIn w' p b2 → m ≤ c → Calls Tryd.prog 25 #[.slice p m c] w' (AnsR w' y2 ls2 E3) from fun w' p c h1 h2 => by
            have h4 := parseFrameR_any p m c b2 w' HB2L.out HBY2.out h1 h2
            rwa [hP2] at h4)
          have hlt' : ¬ (j : Int) < m := by omega
          clear hb2 hP2 hlt
          generalize hN2 : ls2.length = N2 at *
          have HNN2 := Lib.hid hN2
          clear hN2
          go_wp2_with first
            | (go_at_call 28; refine (copyW_any _ b2 m _ _ HB2L.out (HBI.out _ _ HROW.out) HZB.out).mono ?_; rintro e w18 ⟨hb, v18, rfl, hv⟩; obtain ⟨p18, c18, rfl, hi, hp, ho, hlc, hx⟩ := hv.open; rw [HB2L.out] at hlc ⊢; have BI18 := Lib.hid hi; have HC18 := Lib.hid hlc; replace HROW := Lib.hid (row_call hb HROW.out); replace HB := Lib.hid (below_call hb HB.out); clear hb hv hi hp ho hlc hx)
            | (go_at_call 24; refine (HP1.out _ t2 HROW.out).mono ?_; rintro e w19 ⟨hb, v19, us8, rfl, hf, hu⟩; obtain ⟨p19, c19, rfl, hri, hpz⟩ := hf.1.open; rw [HML.out us8 hu]; have HR19 := Lib.hid hri; have HU8 := Lib.hid hu; replace BI18 := Lib.hid (BI18.out.keep hb); replace HB := Lib.hid (below_call hb HB.out); clear hb hf hu hri hpz)
            | (go_at_call 25; refine (HP2.out _ p18 c18 BI18.out HC18.out).mono ?_; rintro e w20 ⟨hb, v20, us9, rfl, hf, hu⟩; obtain ⟨p20, c20, rfl, hri, hpz⟩ := hf.1.open; rw [HML.out us9 hu]; have HR20 := Lib.hid hri; have HU9 := Lib.hid hu; replace HR19 := Lib.hid (HR19.out.under hb (Nat.le_refl _)); replace HB := Lib.hid (below_call hb HB.out); clear hb hf hu hri hpz)
            | (go_at_call 26; refine (eqRows_of HU8.out HU9.out HNN2.out HR19.out HR20.out HM256.out HM88.out).mono ?_; rintro e w21 ⟨_, rfl, rfl, hb⟩; replace HB := Lib.hid (below_call hb HB.out); clear hb)
          exact ⟨rfl, .bool true, by kernel_rfl, rfl, HB.out⟩
open Go.ChangeShapes Go.WideShapes Go.ChangeAt Go.RowKit

theorem own : ownKnob Tryd.prog.godebug = none := by kernel_rfl
theorem laidOut : laidOutB Tryd.prog = true := by kernel_rfl

theorem ints_of {k : IntKind} : ∀ (cs : List Value), (∀ c ∈ cs, ∃ n, c = .int k n ∧ (Lit.int k n).wf = true) → ∃ L : List Int, cs = L.map (Value.int k) ∧ L.length = cs.length ∧ ∀ n ∈ L, (Lit.int k n).wf = true
  | [], _ => ⟨[], rfl, rfl, fun n h => by cases h⟩
  | c :: r, h => by
    obtain ⟨n, rfl, hn⟩ := h c (by simp)
    obtain ⟨L, rfl, hl, hw⟩ := ints_of r (fun x hx => h x (by simp [hx]))
    refine ⟨n :: L, rfl, by simp, fun m hm => ?_⟩
    rw [List.mem_cons] at hm
    rcases hm with rfl | hm
    · exact hn
    · exact hw m hm

theorem open_row {H : Type} {enc : TypeId × Value → H} {P : Program} {W : World} {base : Nat} {spare : Nat → Bool} {held : Bool} {t e : TypeId} {n : Nat} {k : IntKind} {v : Value} {d : DataW H} {ps : List MemPlace}
    (ht : P.underlying t = some (.array n e)) (he : P.underlying e = some (.int k)) (hc : P.cellsOf t = n) (hce : P.cellsOf e = 1) (hn : 2 ≤ n) (h : DataW.Trod enc P W base spare held t v d ps) :
    ∃ L : List Int, v = .agg (valsK k L) ∧ L.length = n ∧ ∀ x ∈ L, (Lit.int k x).wf = true := by
  obtain ⟨fuel, hf⟩ := h
  obtain ⟨xs, m, rfl, hx, hl, hxl, hi⟩ := DataW.trod_array ht hf
  rw [hc] at hl
  obtain ⟨L, hL, hLl, hw⟩ := ints_of (k := k) v.cells.toList (fun c hcm => by
    obtain ⟨i, hi', rfl⟩ := List.getElem_of_mem hcm
    have h1 := hi i (by omega)
    rw [hce, Nat.mul_one] at h1
    have h2 : (v.cells.toList.drop i).take 1 = [v.cells.toList[i]] := by rw [List.drop_eq_getElem_cons hi']; rfl
    rw [h2, List.getElem?_eq_getElem (by omega)] at h1
    obtain ⟨q, hq, _, hqw⟩ := DataW.trod_int he h1
    exact ⟨q, by simpa using hq, hqw⟩)
  have hLn : L.length = n := hLl.trans hl
  refine ⟨L, ?_, hLn, hw⟩
  cases v with
  | agg cs =>
    show Value.agg cs = Value.agg (L.map (Value.int k)).toArray
    congr 1
    have h3 : cs.toList = L.map (Value.int k) := hL
    rw [← h3]
  | _ => exfalso; simp [Value.cells] at hl; omega

theorem byt_of_wf {L : List Int} (h : ∀ x ∈ L, (Lit.int .u8 x).wf = true) : Byt L := fun x hx => by have := bounds_u8 (h x hx); omega
open Go.ChangeShapes Go.WideShapes Go.ChangeAt Go.RowKit

section
variable {H : Type} {enc : TypeId × Value → H} {P : Program} {W : World}
theorem open_bytes {t e : TypeId} {p : Option Addr} {n c : Nat} {d : DataW H} {ps : List MemPlace} (ht : P.underlying t = some (.slice e)) (he : P.underlying e = some (.int .u8)) (hc : P.cellsOf e = 1) (h : DataW.Trod enc P W 0 (fun _ => true) true t (.slice p n c) d ps) :
    ∃ l : List Int, l.length = n ∧ Byt l ∧ BytesIn W p l ∧ n ≤ c ∧ (d = .nil ∧ n = 0 ∨ ∃ el sp, d = .slice el sp ∧ el.length = n) := by
  obtain ⟨fuel, hf⟩ := h
  rcases open_ints ht he hc hf with ⟨h0, hx⟩ | ⟨a, len, cap, zs, h0, hb, hl, hm, hz, hx, hcell, hw⟩
  · have e1 : Value.slice p n c = .slice none 0 0 := by simpa [Value.cells] using h0
    injection e1 with e1 e2 e3
    subst e1; subst e2; subst e3
    simp only [Prod.mk.injEq] at hx
    exact ⟨[], rfl, fun x hx => by simp at hx, fun i hi => by simp at hi, Nat.le_refl _, .inl ⟨hx.1, rfl⟩⟩
  · have e1 : Value.slice p n c = .slice (some a) len cap := by simpa [Value.cells] using h0
    injection e1 with e1 e2 e3
    subst e1; subst e2; subst e3
    simp only [Prod.mk.injEq] at hx
    simp only [if_true] at hz
    have hln : (zs.take n).length = n := by rw [List.length_take]; omega
    refine ⟨zs.take n, hln, fun x hx' => ?_, fun i hi => ?_, hl, .inr ⟨_, _, hx.1, by simp [lits]; omega⟩⟩
    · have := bounds_u8 (hw x (List.mem_of_mem_take hx'))
      omega
    · have hi' : i < n := by omega
      have hcl := hcell i (by omega)
      refine ⟨a, rfl, ?_, ?_⟩
      · have := World.block_lt_of_cell? W _ hcl
        rwa [add_block] at this
      · rw [hcl]
        congr 2
        simp only [nth, List.getD_eq_getElem?_getD]
        rw [List.getElem?_take, if_pos hi']
/-- How long it can be at the most. -/
theorem sized_bytes {ts : List TypeId} {ds : List (DataW H)} {t e : TypeId} {j n : Nat} {d : DataW H} (h : (DataW.weightsEach P ts ds).all (· ≤ reachBytes) = true) (ht : ts[j]? = some t) (hd : ds[j]? = some d) (hu : P.underlying t = some (.slice e)) (hb : P.bytesOf e = 1)
    (hs : d = .nil ∧ n = 0 ∨ ∃ el sp, d = .slice el sp ∧ el.length = n) : n ≤ 140737488355328 := by
  rcases hs with ⟨_, rfl⟩ | ⟨el, sp, rfl, rfl⟩
  · omega
  · have h1 := sized_slice h ht hd hu
    rw [hb, Nat.mul_one] at h1
    have h2 := reachBytes_lt
    omega
end
open Go.ChangeShapes Go.WideShapes Go.ChangeAt Go.RowKit
section
variable {H : Type} {enc : TypeId × Value → H} {P : Program} {W : World}
theorem weights_mem_all {e : TypeId} {d : DataW H} : ∀ {l : List (DataW H)}, d ∈ l → ∀ x, x ∈ d.weights P e → x ∈ DataW.weightsAll P e l
  | [], h, _, _ => by cases h
  | a :: r, h, x, hx => by
    rw [DataW.weightsAll]
    rcases List.mem_cons.1 h with rfl | h
    · exact List.mem_append_left _ hx
    · exact List.mem_append_right _ (weights_mem_all h x hx)
/-- A list of lists of bytes that comes in. -/
theorem open_lists {t e q : TypeId} {p : Option Addr} {n c : Nat} {d : DataW H} {ps : List MemPlace} (ht : P.underlying t = some (.slice e)) (he : P.underlying e = some (.slice q)) (hq : P.underlying q = some (.int .u8)) (ce : P.cellsOf e = 1) (cq : P.cellsOf q = 1)
    (h : DataW.Trod enc P W 0 (fun _ => true) true t (.slice p n c) d ps) :
    ∃ vs : List Row1, vs.length = n ∧ RowsIn W p vs ∧ (∀ r ∈ vs, Byt r.2.2) ∧ (p = none → c = 0) ∧ (d = .nil ∧ n = 0 ∨ ∃ el sp, d = .slice el sp ∧ el.length = n ∧ ∀ r ∈ vs, r.2.2 = [] ∨ ∃ x y, DataW.slice x y ∈ el ∧ x.length = r.2.2.length) := by
  obtain ⟨fuel, hf⟩ := h
  rcases Go.Deep.open_int_rows ht he hq ce cq hf with ⟨h0, hx⟩ | ⟨a, len, cap, A, L, C, Z, h0, hb, hl, hm, hx, hr⟩
  · have e1 : Value.slice p n c = .slice none 0 0 := by simpa [Value.cells] using h0
    injection e1 with e1 e2 e3
    subst e1; subst e2; subst e3
    simp only [Prod.mk.injEq] at hx
    exact ⟨[], rfl, ⟨fun k r hr => by simp at hr, fun r hr => by cases hr⟩, (fun r hr => by cases hr), fun _ => rfl, .inl ⟨hx.1, rfl⟩⟩
  · have e1 : Value.slice p n c = .slice (some a) len cap := by simpa [Value.cells] using h0
    injection e1 with e1 e2 e3
    subst e1; subst e2; subst e3
    simp only [Prod.mk.injEq] at hx
    refine ⟨(List.range n).map fun k => (A k, C k, (Z k).take (L k)), by simp, ⟨fun k r hk => ?_, fun r hk => ?_⟩, fun r hk => ?_, (fun h => by cases h), .inr ⟨_, _, hx.1, by simp, fun r hk => ?_⟩⟩
    · obtain ⟨hkn, rfl⟩ : k < n ∧ (A k, C k, (Z k).take (L k)) = r := by
        rw [List.getElem?_map] at hk
        obtain ⟨j, hj, rfl⟩ := Option.map_eq_some_iff.1 hk
        have h1 := List.getElem?_range (n := n) (i := k) (by have := (List.getElem?_eq_some_iff.1 hj).1; simpa using this)
        rw [h1] at hj
        injection hj with hj
        subst hj
        exact ⟨by have := (List.getElem?_eq_some_iff.1 h1).1; simpa using this, rfl⟩
      obtain ⟨hc, hLC, hCm, hZ, hw, hnn, hin⟩ := hr k (by omega)
      refine ⟨a, rfl, ?_, ?_⟩
      · have := World.block_lt_of_cell? W _ hc
        rwa [add_block] at this
      · rw [hc]
        simp only [List.length_take, hZ, Nat.min_eq_left hLC]
    · obtain ⟨k, hkn, rfl⟩ := List.mem_map.1 hk
      have hkn := List.mem_range.1 hkn
      obtain ⟨hc, hLC, hCm, hZ, hw, hnn, hin⟩ := hr k (by omega)
      refine ⟨fun i hi => ?_, hnn⟩
      simp only [List.length_take, hZ, Nat.min_eq_left hLC] at hi
      show ∃ ad, A k = some ad ∧ _
      cases hA : A k with
      | none => rw [hnn hA] at hLC; omega
      | some a' =>
        have hcl := (hin a' hA).2 i (by omega)
        refine ⟨a', rfl, ?_, ?_⟩
        · have := World.block_lt_of_cell? W _ hcl
          rwa [add_block] at this
        · rw [hcl]
          congr 2
          simp only [nth, List.getD_eq_getElem?_getD]
          rw [List.getElem?_take, if_pos hi]
    · obtain ⟨k, hkn, rfl⟩ := List.mem_map.1 hk
      have hkn := List.mem_range.1 hkn
      obtain ⟨hc, hLC, hCm, hZ, hw, hnn, hin⟩ := hr k (by omega)
      intro x hx'
      have := bounds_u8 (hw x (List.mem_of_mem_take hx'))
      omega
    · obtain ⟨k, hkn, rfl⟩ := List.mem_map.1 hk
      have hkn' := List.mem_range.1 hkn
      obtain ⟨hc, hLC, hCm, hZ, hw, hnn, hin⟩ := hr k (by omega)
      cases hA : A k with
      | none =>
        refine .inl ?_
        have := hnn hA
        show (Z k).take (L k) = []
        rw [show L k = 0 by omega, List.take_zero]
      | some a' => exact .inr ⟨lits .u8 ((Z k).take (L k)), lits .u8 ((Z k).drop (L k)), List.mem_map.2 ⟨k, hkn, by rw [hA]; rfl⟩, by simp [lits]⟩
/-- How long they can be at the most. -/
theorem sized_lists {ts : List TypeId} {ds : List (DataW H)} {t e q : TypeId} {j : Nat} {el sp x y : List (DataW H)} (h : (DataW.weightsEach P ts ds).all (· ≤ reachBytes) = true) (ht : ts[j]? = some t) (hd : ds[j]? = some (.slice el sp)) (hu : P.underlying t = some (.slice e)) (he : P.underlying e = some (.slice q)) (hb : P.bytesOf q = 1)
    (hm : DataW.slice x y ∈ el) : x.length ≤ 140737488355328 := by
  have h1 := List.all_eq_true.1 h _ (DataW.weights_mem_each ht hd ((x.length + y.length) * P.bytesOf q) (by
    rw [DataW.weights, hu]
    refine List.mem_cons_of_mem _ (List.mem_append_left _ (weights_mem_all hm _ ?_))
    rw [DataW.weights, he]
    exact List.mem_cons_self ..))
  have h2 := reachBytes_lt
  simp only [decide_eq_true_eq, hb] at h1
  omega
end
open Go.ChangeShapes Go.WideShapes Go.ChangeAt Go.RowKit

theorem as_et : Tryd.prog.globalNamed "errors.errorType" = some 0 := by kernel_rfl
theorem as_rt : (Tryd.prog.cutTypes.find? (·.1 == "internal/reflectlite.rtype")).map (·.2) = some 120 := by kernel_rfl
theorem as_oneRow : ((List.range 161).filter fun t => Tryd.prog.rowNamed t [101, 114, 114, 111, 114]) = [92] := by kernel_rfl
theorem as_size : Tryd.prog.types.size = 161 := by kernel_rfl
/-- What the condition gives a walk: the variable's one cell. -/
theorem handle_of_laid {W : World} (h : laidMetH Tryd.prog Rows.codecFramesRow.laid W) : Handle W := by
  have h' : laidMet Tryd.prog [] W ∧ handlesMet Tryd.prog Rows.codecFramesRow.laid W := h
  obtain ⟨name, u, ty, e1, e2, e3, e4, e5⟩ := h'.2 _ (List.mem_singleton.2 rfl)
  have en : name = [101, 114, 114, 111, 114] := (Option.some.inj e1).symm
  subst en
  obtain rfl := Option.some.inj (as_rt.symm.trans e2)
  have hm : ty ∈ (List.range 161).filter fun t => Tryd.prog.rowNamed t [101, 114, 114, 111, 114] := List.mem_filter.2 ⟨List.mem_range.2 (by rw [← as_size]; exact e3), e4⟩
  rw [as_oneRow] at hm
  obtain rfl := List.mem_singleton.1 hm
  have hh : typeHandle Tryd.prog 92 = .pointer (some ⟨1, 92, none⟩) := by kernel_rfl
  rw [hh] at e5
  unfold Handle
  simpa using World.var?_cell as_et e5 0
/-- A world that meets the condition on the listed variable. -/
noncomputable def laidWorld (os : Os) : World :=
  let w0 := World.holding Tryd.prog os ⟨#[], #[], []⟩
  { w0 with heap := w0.heap.modify 0 fun
      | .cells _ t frozen => .cells #[.iface 120 (.agg #[.pointer (some ⟨1, 92, none⟩)])] t frozen
      | o => o }
theorem laidWorld_met (os : Os) (args : Array Value) : laidMetH Tryd.prog Rows.codecFramesRow.laid ((laidWorld os).forCall (fun _ _ => 0) ⟨#[], args, []⟩).memory :=
  laidMetH_of_parts (laidMet_nil _ _) (by kernel_rfl)

set_option maxRecDepth 100000 in
theorem codecFrames_lifted (os : Os) (started : os.Started) (H : Type) (enc : TypeId × Value → H) :
    ReturnsInHanded {} Tryd.checked os 4 .any (fun w args => (Rows.codecFramesSpec.pre enc Tryd.prog Tryd.f4 [] false w args ∧ laidMetH Tryd.prog Rows.codecFramesRow.laid w) ∧ sizedMet enc Tryd.prog Tryd.f4 (OpenSpec.ofChange Rows.codecFramesSpec) false w args)
      (Rows.codecFramesSpec.post enc Tryd.prog Tryd.f4 false true false false) := by
  refine returnsInHanded_of_change_and (C := Tryd.checked) (X := fun w _ => laidMetH Tryd.prog Rows.codecFramesRow.laid w) (fun _ _ _ hh h => h.of_heap hh) own started (by kernel_rfl) Tryd.func4
    (ChangeSpec.witness_at (enc := enc) (C := Tryd.checked) (os := os) (X := fun w _ => laidMetH Tryd.prog Rows.codecFramesRow.laid w) false (laidWorld os) #[.int .i64 0, .slice none 0 0, .slice none 0 0] 8 rfl (by kernel_rfl) (by kernel_rfl) (by kernel_rfl) (by kernel_rfl) (by kernel_rfl) (laidWorld_met os _)) ?_
  intro W base args ds gs before hval0 hW _ hreach hL _
  have hval : ∀ (j : Nat) t v, Tryd.f4.params[j]? = some t → args[j]? = some v → Value.okWide Tryd.prog W .any base t v := hval0
  have hW' := hW
  obtain ⟨p, q, hA0, hV, rfl, hfz, hnd⟩ := hW
  have hA : DataW.TrodAll enc Tryd.prog W 0 (fun _ => true) true Tryd.f4.params.toList args.toList ds p := hA0
  rw [Tryd.params4] at hA hreach hval
  obtain ⟨v0, vs0, d0, ds0, p0, q0, hargs, rfl, rfl, h0, r0⟩ := trodAll_cons hA
  obtain ⟨v1, vs1, d1, ds1, p1, q1, rfl, rfl, rfl, h1, r1⟩ := trodAll_cons r0
  obtain ⟨v2, vs2, d2, ds2, p2, q2, rfl, rfl, rfl, h2, r2⟩ := trodAll_cons r1
  obtain ⟨rfl, rfl, rfl⟩ := trodAll_nil r2
  obtain rfl : args = #[v0, v1, v2] := by cases args; simp_all
  obtain ⟨rfl, rfl⟩ := trodVars_none hV
  have k0 := h0
  have lt0 : ∀ x ∈ p0, x.block < W.heap.size := by obtain ⟨m, hm⟩ := k0; exact DataW.trod_lt m _ _ _ hm
  have k1 := h1
  have lt1 : ∀ x ∈ p1, x.block < W.heap.size := by obtain ⟨m, hm⟩ := k1; exact DataW.trod_lt m _ _ _ hm
  have k2 := h2
  have lt2 : ∀ x ∈ p2, x.block < W.heap.size := by obtain ⟨m, hm⟩ := k2; exact DataW.trod_lt m _ _ _ hm
  obtain ⟨k, rfl, rfl, rfl, w1⟩ := open_int Tryd.underlying3 (hval 0 3 v0 rfl rfl) h0
  obtain ⟨p, n, c, rfl⟩ := okWide_slice Tryd.underlying40 (hval 1 40 v1 rfl rfl)
  obtain ⟨vs, hn, hri, hby, hpc, hsz⟩ := open_lists Tryd.underlying40 Tryd.underlying26 Tryd.underlying5 (by kernel_rfl) (by kernel_rfl) h1
  have hl : ∀ r ∈ vs, r.2.2.length ≤ 140737488355328 := fun r hr => by
    rcases hsz with ⟨_, h0⟩ | ⟨el, sp, rfl, _, h2⟩
    · rw [h0] at hn
      rw [List.eq_nil_of_length_eq_zero hn] at hr
      cases hr
    · rcases h2 r hr with h3 | ⟨x, y, h3, h4⟩
      · rw [h3]; decide
      · rw [← h4]
        exact sized_lists hreach (j := 1) rfl rfl Tryd.underlying40 Tryd.underlying26 (by kernel_rfl) h3
  have hnm : n ≤ 5864062014805 := by
    rcases hsz with ⟨_, h0⟩ | ⟨el, sp, rfl, h3, _⟩
    · omega
    · have h4 := sized_slice hreach (j := 1) (t := 40) rfl rfl Tryd.underlying40
      rw [show Tryd.checked.prog.bytesOf 26 = 24 by kernel_rfl] at h4
      have h5 := reachBytes_lt
      omega
  obtain ⟨q, m, d, rfl⟩ := okWide_slice Tryd.underlying26 (hval 2 26 v2 rfl rfl)
  obtain ⟨B, lB, bB, iB, leB, sB⟩ := open_bytes Tryd.underlying26 Tryd.underlying5 (by kernel_rfl) h2
  have zB := sized_bytes hreach (j := 2) rfl rfl Tryd.underlying26 (by kernel_rfl) sB
  clear hA0 hval0
  have hw : Calls Tryd.prog 4 #[.int .i64 k, .slice p n c, .slice q m d] W (fun e w' => e = .returned (.bool true) ∧ Below W.heap.size W w') :=
    codecFrames_any k p q n c m d vs B W (handle_of_laid hL) hn hri hnm hl lB bB iB zB leB
  refine hw.mono fun e W' ⟨he, bel⟩ => ?_
  subst he
  exact ⟨_, rfl, _, _, _, [], _, [], hW', trodAll_mk1 (shut_bool Tryd.underlying4 _), (trodAll_cons_mk (Below.trod laidOut (by kernel_rfl) (of_decide_eq_true (by kernel_rfl)) k0 bel lt0) (trodAll_cons_mk (Below.trod laidOut (by kernel_rfl) (of_decide_eq_true (by kernel_rfl)) k1 bel lt1) (trodAll_cons_mk (Below.trod laidOut (by kernel_rfl) (of_decide_eq_true (by kernel_rfl)) k2 bel lt2) trodAll_mk0))), rfl, bel.frame _, fun h => by cases h⟩

theorem codecFrames_row : Rows.CodecFramesSaid :=
  OpenClaim.holds_of_wide 4 Tryd.f4 rfl rfl rfl rfl rfl rfl rfl ⟨rfl, rfl, rfl, rfl, rfl⟩ rfl rfl rfl rfl rfl (by kernel_rfl) Tryd.func4 (by kernel_rfl)
    (of_decide_eq_true (by kernel_rfl)) (by unfold Func.isWrapper; first | (rw [if_pos (by decide +kernel)]; kernel_rfl) | (rw [if_neg (by decide +kernel)]; exact ⟨rfl, rfl⟩))
    (fun os started H enc _ => codecFrames_lifted os started H enc)

theorem codecFrames_holds : Rows.CodecFramesCardSaid :=
  Claim7.holds_tied_plain_at .later [] _ _ _ _ codecFrames_row (fun _ h => by cases h) (by kernel_rfl) (fun _ h => by cases h) codecFrames_row_tie rfl ⟨rfl, rfl⟩ (by kernel_rfl) rfl
    (fun f fn hf hfn => by
      obtain rfl : f = 4 := Option.some.inj ((show Tryd.prog.funcNamed "tryst/trystlaw20.CodecFrames" = some 4 by kernel_rfl).symm.trans hf) |>.symm
      obtain rfl : fn = Tryd.f4 := (Option.some.inj (Tryd.func4.symm.trans hfn)).symm
      exact ⟨by kernel_rfl, fun j t ht => by
        rw [Tryd.params4] at ht
        match j, ht with
        | 0, ht => obtain rfl : 3 = t := by simpa using ht
                   exact (show Tryd.prog.wantsStandIn 3 = false by kernel_rfl)
        | 1, ht => obtain rfl : 40 = t := by simpa using ht
                   exact (show Tryd.prog.wantsStandIn 40 = false by kernel_rfl)
        | 2, ht => obtain rfl : 26 = t := by simpa using ht
                   exact (show Tryd.prog.wantsStandIn 26 = false by kernel_rfl)
        | j + 3, ht => simp at ht⟩)
    (by kernel_rfl)
#print axioms codecFrames_holds
end Go.Proofs.YtmochmpamgfboaaDoor
