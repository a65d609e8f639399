/- codec.write: parts of any kind, one behind the other. Condition: at most eight parts, of at most 2^40 bytes each. -/
import Derived.Test.YtmochmpamgfboaaDoorPutL
namespace Go.Proofs.YtmochmpamgfboaaDoor
open Go.RowKit
/-- Slices of bytes lie in memory behind a slice of them: each with its address, its capacity, its bytes. -/
def RowsIn (w : World) (p : Option Addr) (vs : List (Option Addr × Nat × List Int)) : Prop :=
  (∀ (k : Nat) r, vs[k]? = some r → ∃ a, p = some a ∧ a.block < w.heap.size ∧ w.cell? (a.add k) = some (.slice r.1 r.2.2.length r.2.1)) ∧ ∀ r ∈ vs, BytesIn w r.1 r.2.2 ∧ (r.1 = none → r.2.1 = 0)
theorem RowsIn.under {w w' : World} {p : Option Addr} {vs : List (Option Addr × Nat × List Int)} {B : Nat} (h : RowsIn w p vs) (hb : Below B w w') (hB : w.heap.size ≤ B) : RowsIn w' p vs :=
  ⟨fun k r hr => by
    obtain ⟨a, h1, h2, h3⟩ := h.1 k r hr
    refine ⟨a, h1, Nat.lt_of_lt_of_le h2 hb.size, ?_⟩
    rw [← h3]
    exact World.cell?_of_block (by rw [add_block]; exact hb.block _ (Nat.lt_of_lt_of_le h2 hB)), fun r hr => ⟨(h.2 r hr).1.under hb hB, (h.2 r hr).2⟩⟩
/-- What a part of write's is, and its bytes (none: a list of invitations one of which has not its size). -/
inductive PartIn (w : World) : Value → Option (List Int) → Prop
  | byte (x : Int) : PartIn w (.iface 5 (.int .u8 x)) (some [x])
  | num (x : Int) : PartIn w (.iface 3 (.int .i64 x)) (some (le4 (x % 4294967296)))
  | bts (p : Option Addr) (n c : Nat) (l : List Int) (hn : l.length = n) (h : BytesIn w p l) (hp : p = none → c = 0) (hm : n ≤ 1099511627776) : PartIn w (.iface 26 (.slice p n c)) (some l)
  | drop (l : List Int) (hn : l.length = 16) : PartIn w (.iface 25 (.agg (vals l))) (some l)
  | rows (p : Option Addr) (n c : Nat) (vs : List (Option Addr × Nat × List Int)) (hn : vs.length = n) (h : RowsIn w p vs) (hm : n ≤ 4294967296) : PartIn w (.iface 40 (.slice p n c)) (if ∀ r ∈ vs, r.2.2.length = 88 then some (vs.map (·.2.2)).flatten else none)
theorem PartIn.under {w w' : World} {v : Value} {o : Option (List Int)} {B : Nat} (h : PartIn w v o) (hb : Below B w w') (hB : w.heap.size ≤ B) : PartIn w' v o := by
  cases h with
  | byte x => exact .byte x
  | num x => exact .num x
  | bts p n c l hn h hp hm => exact .bts p n c l hn (h.under hb hB) hp hm
  | drop l hn => exact .drop l hn
  | rows p n c vs hn h hm => exact .rows p n c vs hn (h.under hb hB) hm
/-- All parts, one behind the other. -/
def layAll : List (Option (List Int)) → Option (List Int)
  | [] => some []
  | none :: _ => none
  | some l :: r => (layAll r).map (l ++ ·)
theorem layAll_take : ∀ {os : List (Option (List Int))} {k : Nat} {l m : List Int}, layAll (os.take k) = some l → os[k]? = some (some m) → layAll (os.take (k + 1)) = some (l ++ m)
  | o :: os, 0, l, m, h1, h2 => by
    obtain rfl : l = [] := by simpa [layAll] using h1.symm
    obtain rfl : o = some m := by simpa using h2
    simp [layAll]
  | none :: os, k + 1, l, m, h1, h2 => by simp [layAll] at h1
  | some q :: os, k + 1, l, m, h1, h2 => by
    simp only [List.take_succ_cons, layAll, Option.map_eq_some_iff] at h1 ⊢
    obtain ⟨r, h3, rfl⟩ := h1
    exact ⟨r ++ m, layAll_take h3 (by simpa using h2), by simp⟩
  | [], _, l, m, h1, h2 => by simp at h2
theorem layAll_none : ∀ {os : List (Option (List Int))} {k : Nat}, os[k]? = some none → layAll os = none
  | none :: os, _, h => rfl
  | some q :: os, k + 1, h => by simp [layAll, layAll_none (os := os) (k := k) (by simpa using h)]
  | some q :: os, 0, h => by simp at h
  | [], _, h => by simp at h
theorem flat88 : ∀ (vs : List (Option Addr × Nat × List Int)), (∀ r ∈ vs, r.2.2.length = 88) → (vs.map (·.2.2)).flatten.length = vs.length * 88
  | [], _ => rfl
  | r :: vs, h => by
    have h1 := h r (by simp)
    have h2 := flat88 vs fun q hq => h q (by simp [hq])
    simp only [List.map_cons, List.flatten_cons, List.length_append, List.length_cons, h1, h2]
    omega
theorem PartIn.len {w : World} {v : Value} {l : List Int} (h : PartIn w v (some l)) : l.length ≤ 1099511627776 := by
  generalize ho : some l = o at h
  cases h with
  | byte x => injection ho with ho; subst ho; simp
  | num x => injection ho with ho; subst ho; simp [le4]
  | bts p n c l' hn h hp hm => injection ho with ho; subst ho; omega
  | drop l' hn => injection ho with ho; subst ho; omega
  | rows p n c vs hn h hm =>
    split at ho
    · rename_i hall
      injection ho with ho
      subst ho
      rw [flat88 vs hall]
      omega
    · cases ho
theorem layAll_len {M : Nat} : ∀ {os : List (Option (List Int))} {l : List Int}, layAll os = some l → (∀ m, some m ∈ os → m.length ≤ M) → l.length ≤ os.length * M
  | [], l, h, _ => by simp [layAll] at h; subst h; simp
  | none :: os, l, h, _ => by simp [layAll] at h
  | some q :: os, l, h, hM => by
    simp only [layAll, Option.map_eq_some_iff] at h
    obtain ⟨r, h3, rfl⟩ := h
    have h1 := hM q (by simp)
    have h2 := layAll_len h3 fun m hm => hM m (by simp [hm])
    rw [List.length_append, List.length_cons, Nat.add_mul]
    omega
theorem as_uu (v : Value) (w : World) : (Instr.typeAssert (.iface 5 v) 20 5 true).run Tryd.prog w = .ok (.tuple #[v, .bool true]) w := by kernel_rfl
theorem as_iu (v : Value) (w : World) : (Instr.typeAssert (.iface 3 v) 20 5 true).run Tryd.prog w = .ok (.tuple #[.int .u8 0, .bool false]) w := by kernel_rfl
theorem as_ii (v : Value) (w : World) : (Instr.typeAssert (.iface 3 v) 20 3 true).run Tryd.prog w = .ok (.tuple #[v, .bool true]) w := by kernel_rfl
theorem as_bu (v : Value) (w : World) : (Instr.typeAssert (.iface 26 v) 20 5 true).run Tryd.prog w = .ok (.tuple #[.int .u8 0, .bool false]) w := by kernel_rfl
theorem as_bi (v : Value) (w : World) : (Instr.typeAssert (.iface 26 v) 20 3 true).run Tryd.prog w = .ok (.tuple #[.int .i64 0, .bool false]) w := by kernel_rfl
theorem as_bb (v : Value) (w : World) : (Instr.typeAssert (.iface 26 v) 20 26 true).run Tryd.prog w = .ok (.tuple #[v, .bool true]) w := by kernel_rfl
theorem as_du (v : Value) (w : World) : (Instr.typeAssert (.iface 25 v) 20 5 true).run Tryd.prog w = .ok (.tuple #[.int .u8 0, .bool false]) w := by kernel_rfl
theorem as_di (v : Value) (w : World) : (Instr.typeAssert (.iface 25 v) 20 3 true).run Tryd.prog w = .ok (.tuple #[.int .i64 0, .bool false]) w := by kernel_rfl
theorem as_db (v : Value) (w : World) : (Instr.typeAssert (.iface 25 v) 20 26 true).run Tryd.prog w = .ok (.tuple #[.slice none 0 0, .bool false]) w := by kernel_rfl
theorem as_dd (v : Value) (w : World) : (Instr.typeAssert (.iface 25 v) 20 25 true).run Tryd.prog w = .ok (.tuple #[v, .bool true]) w := by kernel_rfl
theorem as_ru (v : Value) (w : World) : (Instr.typeAssert (.iface 40 v) 20 5 true).run Tryd.prog w = .ok (.tuple #[.int .u8 0, .bool false]) w := by kernel_rfl
theorem as_ri (v : Value) (w : World) : (Instr.typeAssert (.iface 40 v) 20 3 true).run Tryd.prog w = .ok (.tuple #[.int .i64 0, .bool false]) w := by kernel_rfl
theorem as_rb (v : Value) (w : World) : (Instr.typeAssert (.iface 40 v) 20 26 true).run Tryd.prog w = .ok (.tuple #[.slice none 0 0, .bool false]) w := by kernel_rfl
theorem as_rd (v : Value) (w : World) : (Instr.typeAssert (.iface 40 v) 20 25 true).run Tryd.prog w = .ok (.tuple #[.agg #[.int .u8 0, .int .u8 0, .int .u8 0, .int .u8 0, .int .u8 0, .int .u8 0, .int .u8 0, .int .u8 0, .int .u8 0, .int .u8 0, .int .u8 0, .int .u8 0, .int .u8 0, .int .u8 0, .int .u8 0, .int .u8 0], .bool false]) w := by kernel_rfl
theorem as_rr (v : Value) (w : World) : (Instr.typeAssert (.iface 40 v) 20 40 true).run Tryd.prog w = .ok (.tuple #[v, .bool true]) w := by kernel_rfl
theorem sixteen {l : List Int} (h : l.length = 16) : ∃ x0 x1 x2 x3 x4 x5 x6 x7 x8 x9 x10 x11 x12 x13 x14 x15 : Int, l = [x0, x1, x2, x3, x4, x5, x6, x7, x8, x9, x10, x11, x12, x13, x14, x15] := by
  match l, h with
  | [y0, y1, y2, y3, y4, y5, y6, y7, y8, y9, y10, y11, y12, y13, y14, y15], _ => exact ⟨_, _, _, _, _, _, _, _, _, _, _, _, _, _, _, _, rfl⟩
/-- What write answers. -/
def Wrote (w : World) (o : Option (List Int)) (e : Ending) (w' : World) : Prop := Below w.heap.size w w' ∧ match o with
  | some l => ∃ v, e = .returned (.tuple #[v, .nilIface]) ∧ Bts w' w.heap.size v l
  | none => e = .returned (.tuple #[.slice none 0 0, .iface 30 (.int .i64 4)])
set_option maxHeartbeats 4000000 in
set_option maxRecDepth 100000 in
theorem write_any (p : Option Addr) (n c : Nat) (vs : List Value) (os : List (Option (List Int))) (w : World) (hn : vs.length = n) (ho : os.length = n) (h8 : n ≤ 8)
    (hv : ∀ (k : Nat) v, vs[k]? = some v → ∃ a, p = some a ∧ a.block < w.heap.size ∧ w.cell? (a.add k) = some v) (hp : ∀ (k : Nat) v o, vs[k]? = some v → os[k]? = some o → PartIn w v o) :
    Calls Tryd.prog 67 #[.slice p n c] w (Wrote w (layAll os)) := by
  obtain ⟨O, hO⟩ : ∃ O, O = layAll os := ⟨_, rfl⟩
  rw [← hO]
  have HO := Lib.hid hO
  have LEN := Lib.hid (show ∀ (j : Nat) m, os[j]? = some (some m) → m.length ≤ 1099511627776 from fun j m hj => by
    have h1 : j < vs.length := by rw [hn, ← ho]; exact (List.getElem?_eq_some_iff.1 hj).1
    exact (hp j vs[j] _ (List.getElem?_eq_getElem h1) hj).len)
  have HN := Lib.hid hn
  have HL := Lib.hid ho
  have HV := Lib.hid hv
  have HP := Lib.hid hp
  clear hn ho hv hp hO
  go_enter Tryd.func67, Tryd.ntmps67
  go_wp2
  go_loopw [4, 16] (fun v i wr => ∃ k l, k ≤ n ∧ i = .int .i64 (k : Nat) ∧ layAll (os.take k) = some l ∧ Bts wr w.heap.size v l ∧ Below w.heap.size w wr) (fun _ i _ => n - (intOf i).toNat)
  case atStart => exact ⟨0, [], by omega, rfl, by rw [List.take_zero]; rfl, bts_nil _ _, Below.refl _ _⟩
  case round =>
    obtain ⟨k, l, hk, rfl, hl, hbt, hb⟩ := hrel
    have HB := Lib.hid hb
    have HBT := Lib.hid hbt
    have HLA := Lib.hid hl
    clear hb hbt hl
    have HLL := Lib.hid (show l.length ≤ 8796093022208 by
      have := layAll_len (M := 1099511627776) HLA.out fun m hm => by
        obtain ⟨j, hj⟩ := List.mem_iff_getElem?.1 hm
        rw [List.getElem?_take] at hj
        split at hj
        · exact LEN.out _ _ hj
        · cases hj
      rw [List.length_take, HL.out, Nat.min_eq_left hk] at this
      omega)
    by_cases hlt : k < n
    · have hkv : vs[k]? = some vs[k]! := by simp [HN.out, hlt]
      have hko : os[k]? = some os[k]! := by simp [HL.out, hlt]
      obtain ⟨a, rfl, halt, hcell⟩ := HV.out k _ hkv
      have hpart := HP.out k _ _ hkv hko
      have hc1 : wr.cell? (a.add k) = some vs[k]! := by
        rw [← hcell]
        exact World.cell?_of_block (by rw [add_block]; exact HB.out.block _ halt)
      clear hcell halt hkv
      have HKO := Lib.hid hko
      clear hko
      generalize vs[k]! = vk at hc1 hpart
      generalize os[k]! = ok at hpart HKO
      cases hpart with
      | byte x =>
        have as_uu' := as_uu
        have HT := Lib.hid (layAll_take HLA.out HKO.out)
        go_wp2_with (at_builtin; (refine held_append _ _ rfl ?_))
        refine wpList_app1 _ _ rfl rfl rfl rfl HB.out HBT.out (by have := HLL.out; omega) fun v' w' h1 h2 _ _ => ?_
        have H1 := Lib.hid h1
        have H2 := Lib.hid h2
        clear h1 h2
        go_wp2
        go_roundw
        case rel => exact ⟨k + 1, _, by omega, by go_num, HT.out, H1.out, H2.out⟩
        case measure => simp [intOf]; omega
      | num x =>
        have as_iu' := as_iu
        have as_ii' := as_ii
        have HT := Lib.hid (layAll_take HLA.out HKO.out)
        obtain ⟨p4, c4, rfl, hbi, hpc, _⟩ := HBT.out.open
        have HBI := Lib.hid hbi
        have HPC := Lib.hid hpc
        clear hbi hpc
        go_wp2_with (go_at_call 73; refine (putLittle_any p4 l l.length c4 _ _ (by go_num) (by go_num) rfl HBI.out HPC.out (by have := HLL.out; omega)).mono ?_; rintro e w' ⟨h2, v', rfl, h1⟩; have H1 := Lib.hid (h1.low HB.out.size); have H2 := Lib.hid (HB.out.trans (h2.mono HB.out.size)); clear h1 h2)
        go_roundw
        case rel => exact ⟨k + 1, _, by omega, by go_num, HT.out, H1.out, H2.out⟩
        case measure => simp [intOf]; omega
      | bts p n2 c2 l2 hn2 h2 hp2 hm2 =>
        have as_bu' := as_bu
        have as_bi' := as_bi
        have as_bb' := as_bb
        have HT := Lib.hid (layAll_take HLA.out HKO.out)
        have HI2 := Lib.hid h2
        have HP2 := Lib.hid hp2
        have HN2 := Lib.hid hn2
        clear h2 hp2 hn2
        go_wp2_with (at_builtin; (refine held_append _ _ rfl ?_))
        refine wpList_appB l2 _ _ rfl rfl rfl rfl HB.out HBT.out HN2.out (HI2.out.under HB.out (Nat.le_refl _)) HP2.out (by have := HLL.out; omega) fun v' w' h1 h2 _ _ => ?_
        have H1 := Lib.hid h1
        have H2 := Lib.hid h2
        clear h1 h2
        go_wp2
        go_roundw
        case rel => exact ⟨k + 1, _, by omega, by go_num, HT.out, H1.out, H2.out⟩
        case measure => simp [intOf]; omega
      | drop l2 hn2 =>
        have as_du' := as_du
        have as_di' := as_di
        have as_db' := as_db
        have as_dd' := as_dd
        have HT := Lib.hid (layAll_take HLA.out HKO.out)
        obtain ⟨x0, x1, x2, x3, x4, x5, x6, x7, x8, x9, x10, x11, x12, x13, x14, x15, rfl⟩ := sixteen hn2
        clear hn2
        simp only [vals, List.map_cons, List.map_nil] at hc1
        go_wp2_with (at_builtin; (refine held_append _ _ rfl ?_))
        refine wpList_appB [x0, x1, x2, x3, x4, x5, x6, x7, x8, x9, x10, x11, x12, x13, x14, x15] _ _ rfl rfl rfl rfl (HB.out.alloc HB.out.size _) (HBT.out.alloc _) rfl (BytesIn.row 0 (heap_alloc_new wr _) rfl) (fun h => by cases h) (by have := HLL.out; omega) fun v' w' h1 h2 _ _ => ?_
        have H1 := Lib.hid h1
        have H2 := Lib.hid h2
        clear h1 h2
        go_wp2
        go_roundw
        case rel => exact ⟨k + 1, _, by omega, by go_num, HT.out, H1.out, H2.out⟩
        case measure => simp [intOf]; omega
      | rows p2 n2 c2 vs2 hn2 h2 hm2 =>
        have as_ru' := as_ru
        have as_ri' := as_ri
        have as_rb' := as_rb
        have as_rd' := as_rd
        have as_rr' := as_rr
        have HR2 := Lib.hid h2
        have HN2 := Lib.hid hn2
        clear h2 hn2
        go_wp2
        go_loopw [4, 52] (fun v i wi => ∃ j, j ≤ n2 ∧ i = .int .i64 (j : Nat) ∧ (∀ r ∈ vs2.take j, r.2.2.length = 88) ∧ Bts wi w.heap.size v (l ++ ((vs2.take j).map (·.2.2)).flatten) ∧ Below w.heap.size w wi) (fun _ i _ => n2 - (intOf i).toNat)
        case atStart => exact ⟨0, by omega, rfl, fun r hr => by simp at hr, by simpa using HBT.out, HB.out⟩
        case round =>
          clear HB HBT hc1
          obtain ⟨j, hj, rfl, h88, hbt, hb⟩ := hrel
          have HB := Lib.hid hb
          have HBT := Lib.hid hbt
          have H88 := Lib.hid h88
          have HJL := Lib.hid (show (l ++ ((vs2.take j).map (·.2.2)).flatten).length ≤ 70368744177664 by
            rw [List.length_append, flat88 _ h88, List.length_take, HN2.out, Nat.min_eq_left hj]
            have := HLL.out
            omega)
          clear hb hbt h88
          by_cases hjt : j < n2
          · have hjv : vs2[j]? = some (vs2[j]'(by rw [HN2.out]; exact hjt)) := List.getElem?_eq_getElem _
            obtain ⟨r, hr⟩ : ∃ r, vs2[j]? = some r := ⟨_, hjv⟩
            clear hjv
            obtain ⟨a2, rfl, ha2, hc2⟩ := HR2.out.1 j r hr
            have hc3 : wr.cell? (a2.add j) = some (.slice r.1 r.2.2.length r.2.1) := by
              rw [← hc2]
              exact World.cell?_of_block (by rw [add_block]; exact HB.out.block _ ha2)
            have hri := HR2.out.2 r (List.mem_of_getElem? hr)
            have HRI := Lib.hid (hri.1.under HB.out (Nat.le_refl _))
            have HRP := Lib.hid hri.2
            have HR := Lib.hid hr
            clear hc2 ha2 hri hr
            obtain ⟨rp, rc, rl⟩ := r
            simp only at HRI HRP hc3
            by_cases h88 : rl.length = 88
            · have HTK := Lib.hid (show vs2.take (j + 1) = vs2.take j ++ [(rp, rc, rl)] by
                have hl : j < vs2.length := by rw [HN2.out]; exact hjt
                rw [List.take_succ_eq_append_getElem hl]
                congr 2
                have := HR.out
                rw [List.getElem?_eq_getElem hl] at this
                injection this)
              have HR88 := Lib.hid h88
              rw [h88] at hc3
              clear h88
              go_wp2_with (at_builtin; (refine held_append _ _ rfl ?_))
              refine wpList_appB rl _ _ rfl rfl rfl rfl HB.out HBT.out HR88.out HRI.out HRP.out (by have := HJL.out; omega) fun v' w' h1 h2 _ _ => ?_
              have H1 := Lib.hid h1
              have H2 := Lib.hid h2
              clear h1 h2
              go_wp2
              go_roundw
              case rel =>
                refine ⟨j + 1, by omega, by go_num, fun q hq => ?_, ?_, H2.out⟩
                · rw [HTK.out, List.mem_append] at hq
                  rcases hq with hq | hq
                  · exact H88.out q hq
                  · simp only [List.mem_singleton] at hq
                    subst hq
                    exact HR88.out
                · rw [HTK.out]
                  simpa using H1.out
              case measure => simp [intOf]; omega
            · have HE := Lib.hid (HO.out.trans (layAll_none (by rw [HKO.out, if_neg fun hall => h88 (hall _ (List.mem_of_getElem? HR.out))])))
              go_wp2
              exact ⟨rfl, .tuple #[.slice none 0 0, .iface 30 (.int .i64 4)], by kernel_rfl, HB.out, by rw [HE.out]⟩
          · obtain rfl : j = n2 := by omega
            have HV2 := Lib.hid (List.take_of_length_le (Nat.le_of_eq HN2.out))
            have HT := Lib.hid (layAll_take HLA.out (m := (vs2.map (·.2.2)).flatten) (by rw [HKO.out, if_pos (by have := H88.out; rwa [HV2.out] at this)]))
            have H1 := HBT.out
            rw [HV2.out] at H1
            have HBT1 := Lib.hid H1
            clear H1
            go_wp2
            go_roundw
            case rel => exact ⟨k + 1, _, by omega, by go_num, HT.out, HBT1.out, HB.out⟩
            case measure => simp [intOf]; omega
    · obtain rfl : k = n := by omega
      have e : layAll os = some l := by rw [← HLA.out, List.take_of_length_le (Nat.le_of_eq HL.out)]
      have HE := Lib.hid (HO.out.trans e)
      clear e
      go_wp2
      exact ⟨rfl, .tuple #[u4, .nilIface], by kernel_rfl, HB.out, by rw [HE.out]; exact ⟨_, rfl, HBT.out⟩⟩
end Go.Proofs.YtmochmpamgfboaaDoor
