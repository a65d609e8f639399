/- The references' helpers for bytes: EqBytes, Spare, Kept, CopyBytes: what each answers. Condition: lengths that memory can hold. -/
import Derived.Test.YtmochmpamgfboaaDoorByt
namespace Go.Proofs.YtmochmpamgfboaaDoor
open Go.RowKit

set_option maxRecDepth 100000 in
theorem eqBytes_any (p1 p2 : Option Addr) (l1 l2 : List Int) (n1 n2 c1 c2 : Nat) (w : World) (hn1 : l1.length = n1) (hn2 : l2.length = n2) (h1 : BytesIn w p1 l1) (h2 : BytesIn w p2 l2) (hm : n1 ≤ 9223372036854775807) :
    Calls Tryd.prog 21 #[.slice p1 n1 c1, .slice p2 n2 c2] w (Gives (· = .bool (decide (l1 = l2))) w) := by
  by_cases hl : n1 = n2
  · subst hl
    go_enter Tryd.func21, Tryd.ntmps21
    have H1 := Lib.hid h1
    have H2 := Lib.hid h2
    have HN1 := Lib.hid hn1
    have HN2 := Lib.hid hn2
    clear h1 h2 hn1 hn2
    go_wp2
    go_loopw [5] (fun i wr => ∃ k : Nat, k ≤ n1 ∧ i = .int .i64 k ∧ l1.take k = l2.take k ∧ Below w.heap.size w wr) (fun i _ => n1 - (intOf i).toNat)
    case atStart => exact ⟨0, by omega, rfl, by simp, Below.refl _ _⟩
    case round =>
      obtain ⟨k, hk, rfl, heq, hb⟩ := hrel
      have HEQ := Lib.hid heq
      have HB := Lib.hid hb
      clear heq hb
      by_cases hlt : k < n1
      · obtain ⟨a1, rfl, _, x1⟩ := H1.out.keep HB.out k (by rw [HN1.out]; exact hlt)
        obtain ⟨a2, rfl, _, x2⟩ := H2.out.keep HB.out k (by rw [HN2.out]; exact hlt)
        have HE := Lib.hid (show nth l1 k = nth l2 k → l1.take (k + 1) = l2.take (k + 1) from fun e => take_eq_step HEQ.out (by rw [HN1.out]; exact hlt) (by rw [HN2.out]; exact hlt) e)
        have HD := Lib.hid (show nth l1 k ≠ nth l2 k → l1 ≠ l2 from nth_ne)
        generalize nth l1 k = x at *
        generalize nth l2 k = y at *
        by_cases hxy : x = y
        · subst hxy
          have HEQ2 := Lib.hid (HE.out rfl)
          clear HE HD
          go_wp2
          go_region
          go_wp2
          go_roundw
          case rel => exact ⟨k + 1, by omega, by go_num, HEQ2.out, by first | exact HB.out.drew | exact HB.out⟩
          case measure => simp [intOf]; omega
        · have HEQ2 := Lib.hid (HD.out hxy)
          clear HE HD
          go_wp2
          go_region
          go_wp2
          exact ⟨rfl, .bool false, by kernel_rfl, _, rfl, by rw [decide_eq_false HEQ2.out], by first | exact HB.out.drew | exact HB.out⟩
      · obtain rfl : k = n1 := by omega
        have e : l1 = l2 := by rw [← List.take_of_length_le (Nat.le_of_eq HN1.out), HEQ.out, List.take_of_length_le (Nat.le_of_eq HN2.out)]
        have HE := Lib.hid e
        go_wp2
        exact ⟨rfl, .bool true, by kernel_rfl, _, rfl, by rw [decide_eq_true HE.out], HB.out⟩
  · go_enter Tryd.func21, Tryd.ntmps21
    have e : l1 ≠ l2 := fun e => hl (by rw [← hn1, ← hn2, e])
    have HE := Lib.hid e
    clear h1 h2 e
    go_wp2
    exact ⟨rfl, .bool false, by kernel_rfl, _, rfl, by rw [decide_eq_false HE.out], Below.refl _ _⟩

set_option maxRecDepth 100000 in
theorem spare_any (p : Option Addr) (l : List Int) (n c : Nat) (w : World) (hn : l.length = n) (h : BytesIn w p l) (hm : n ≤ 140737488355328) :
    Calls Tryd.prog 8 #[.slice p n c] w (NewBytes w (spareL l) n) := by
  obtain ⟨ie, hie, hsz⟩ := Option.map_eq_some_iff.1 (show (Tryd.prog.info? 5).map (fun i => (i.zero, i.size, i.bytes)) = some (some (.int .u8 0), 1, 1) by kernel_rfl)
  obtain ⟨hz, hs1, hb1⟩ : ie.zero = some (.int .u8 0) ∧ ie.size = 1 ∧ ie.bytes = 1 := by simpa using hsz
  have hmk : ∀ u : World, (Instr.makeSlice 26 (.int .i64 ((n : Int) + 80)) (.int .i64 ((n : Int) + 80))).run Tryd.prog u = .ok (.slice (some ⟨u.heap.size, 0, none⟩) (n + 80) (n + 80)) (u.alloc (.cells (vals (List.replicate (n + 80) 0)) 5)) := fun u => by
    have hr := run_make (P := Tryd.prog) u 26 5 ie (.int .u8 0) Tryd.underlying26 hie hz .i64 .i64 ((n : Int) + 80) ((n : Int) + 80) (by omega) (Int.le_refl _) (by rw [hb1]; omega) (by omega)
    have e : ((n : Int) + 80).toNat = n + 80 := by omega
    rw [e, hs1, Nat.mul_one] at hr
    rw [hr, ← made_zero]
    rfl
  have H := Lib.hid h
  have HN := Lib.hid hn
  clear h hn hie hsz hz hs1 hb1
  go_enter Tryd.func8, Tryd.ntmps8
  go_wp2
  have hO : Own w [(w.heap.size, n + 80, (· = .agg (vals ((spareL l).take 0 ++ (List.replicate (n + 80) 0).drop 0))))] (w.alloc (.cells (vals (List.replicate (n + 80) 0)) 5)) :=
    (Own.of_below (by go_grown)).add (g := w.heap.size) (Nat.le_refl _) (fun r hr => by cases hr) ⟨_, _, heap_alloc_new w _, by simp [vals_size], by simp⟩
  have HO := Lib.hid hO
  clear hO
  go_loopw [4] (fun i wr => ∃ k : Nat, k ≤ n + 80 ∧ i = .int .i64 k ∧ Own w [(w.heap.size, n + 80, (· = .agg (vals ((spareL l).take k ++ (List.replicate (n + 80) 0).drop k))))] wr) (fun i _ => n + 80 - (intOf i).toNat)
  case atStart => exact ⟨0, by omega, rfl, HO.out⟩
  case round =>
    clear HO
    obtain ⟨k, hk, rfl, hS⟩ := hrel
    have HSL := Lib.hid (spareL_len l)
    by_cases hlt : k < n + 80
    · obtain ⟨tg, R⟩ := hS.bytes (i := 0) rfl
      have ca := (row_cell R k).trans (vals_get (by rw [fill_len _ _ _ (by rw [HSL.out, HN.out, List.length_replicate]) (by rw [HSL.out, HN.out]; omega), List.length_replicate]; exact hlt))
      have fa := row_free R k
      have hS2 := hS.byte (i := 0) rfl k (nth (spareL l) k)
      rw [fill_step _ _ _ (by rw [HSL.out, HN.out]; exact hlt) (by rw [HSL.out, HN.out, List.length_replicate])] at hS2
      have HB := Lib.hid hS.1
      generalize nth ((spareL l).take k ++ (List.replicate (n + 80) 0).drop k) k = old at ca
      by_cases hkn : k < n
      · rw [spareL_lo l k (by rw [HN.out]; exact hkn)] at hS2
        obtain ⟨a, rfl, _, x1⟩ := H.out.under HB.out (Nat.le_refl _) k (by rw [HN.out]; exact hkn)
        generalize nth l k = x at *
        simp only [List.set_cons_zero] at hS2
        have HS2 := Lib.hid hS2
        clear hS2 hS R hmk
        go_wp2
        go_roundw
        case rel => exact ⟨k + 1, by omega, by go_num, HS2.out⟩
        case measure => simp [intOf]; omega
      · rw [spareL_hi l k (by rw [HN.out]; omega) (by rw [HN.out]; omega)] at hS2
        simp only [List.set_cons_zero, mrk] at hS2
        have HS2 := Lib.hid hS2
        clear hS2 hS R hmk
        go_wp2
        go_roundw
        case rel => exact ⟨k + 1, by omega, by go_num, HS2.out⟩
        case measure => simp [intOf]; omega
    · obtain rfl : k = n + 80 := by omega
      obtain ⟨tg, R⟩ := hS.bytes (i := 0) rfl
      have e80 : (spareL l).take (n + 80) ++ (List.replicate (n + 80) (0 : Int)).drop (n + 80) = spareL l := by rw [List.take_of_length_le (by rw [HSL.out, HN.out]; exact Nat.le_refl _), List.drop_of_length_le (by simp), List.append_nil]
      rw [e80] at R
      have HR := Lib.hid R
      have HB := Lib.hid hS.1
      clear hS R hmk e80
      go_wp2
      exact ⟨rfl, .slice (some ⟨w.heap.size, 0, none⟩) n (n + 80), by kernel_rfl, HB.out, _, _, by rw [HSL.out, HN.out], Nat.le_refl _, HR.out⟩
end Go.Proofs.YtmochmpamgfboaaDoor
