/- The law FieldPlays of package trystlaw08: for every input of bulk at most 1048576 the call returns true, and each argument reads afterwards as it read before. Condition: that bulk. -/
import Derived.Test.YtciakfhjjnmeeaaBa0
import Derived.Test.YtciakfhjjnmeeaaBa1
import Derived.Test.YtciakfhjjnmeeaaBa2
import Derived.Test.YtciakfhjjnmeeaaBa3
import Derived.Test.YtciakfhjjnmeeaaBa4
import Derived.Test.YtciakfhjjnmeeaaBa5
import Derived.Test.YtciakfhjjnmeeaaQRowFieldPlays0
import Derived.Test.YtciakfhjjnmeeaaQRowFieldPlays1
import Derived.Test.YtciakfhjjnmeeaaQRowFieldPlays2
import Derived.ChangeArms
import Derived.Deep.Slices
import Derived.JoinedCond
namespace Go.Proofs.Ytciakfhjjnmeeaa
open Go.ChangeShapes Go.WideShapes Go.ChangeAt Go.RowKit

/-- The cells of an array of whole numbers. -/
theorem open_cells {H : Type} {enc : TypeId × Value → H} {P : Program} {W : World} {base : Nat} {spare : Nat → Bool} {held : Bool} {t e : TypeId} {n fuel : Nat} {k : IntKind} {cs : List Value} {x : DataW H × List MemPlace}
    (ht : P.underlying t = some (.array n e)) (he : P.underlying e = some (.int k)) (hc : P.cellsOf t = n) (hce : P.cellsOf e = 1) (h : DataW.trod enc P W base spare held fuel t cs = some x) :
    ∃ L : List Int, cs = L.map (Value.int k) ∧ L.length = n ∧ ∀ x ∈ L, (Lit.int k x).wf = true := by
  obtain ⟨xs, m, rfl, hx, hl, hxl, hi⟩ := DataW.trod_array ht h
  rw [hc] at hl
  obtain ⟨L, hL, hLl, hw⟩ := ints_of (k := k) cs (fun c hcm => by
    obtain ⟨i, hi', rfl⟩ := List.getElem_of_mem hcm
    have h1 := hi i (by omega)
    rw [hce, Nat.mul_one] at h1
    have h2 : (cs.drop i).take 1 = [cs[i]] := by rw [List.drop_eq_getElem_cons hi']; rfl
    rw [h2, List.getElem?_eq_getElem (by omega)] at h1
    obtain ⟨q, hq, _, hqw⟩ := DataW.trod_int he h1
    exact ⟨q, by simpa using hq, hqw⟩)
  exact ⟨L, hL, hLl.trans hl, hw⟩

theorem four_parts (l : List Value) (h : l.length = 66) : l = ((l.drop 0).take 32) ++ ((l.drop 32).take 32) ++ ((l.drop 64).take 1) ++ ((l.drop 65).take 1) := by
  have e1 := (List.take_append_drop 32 l).symm
  have e2 := (List.take_append_drop 32 (l.drop 32)).symm
  have e3 := (List.take_append_drop 1 (l.drop 64)).symm
  have e4 : (l.drop 65).take 1 = l.drop 65 := List.take_of_length_le (by simp; omega)
  rw [List.drop_drop] at e2 e3
  rw [e4, List.drop_zero]
  rw [List.append_assoc, List.append_assoc]
  conv => lhs; rw [e1, e2, e3]

theorem open_powers {H : Type} {enc : TypeId × Value → H} {W : World} {base : Nat} {spare : Nat → Bool} {held : Bool} {v : Value} {d : DataW H} {ps : List MemPlace}
    (h : DataW.Trod enc Try.prog W base spare held 53 v d ps) :
    ∃ (La Lb : List Int) (m n : Int), v = .agg ((La.map (Value.int .u8) ++ Lb.map (Value.int .u8) ++ [Value.int .u32 m, Value.int .u32 n]).toArray) ∧ La.length = 32 ∧ (∀ x ∈ La, (Lit.int .u8 x).wf = true) ∧ Lb.length = 32 ∧ (∀ x ∈ Lb, (Lit.int .u8 x).wf = true) ∧ (Lit.int .u32 m).wf = true ∧ (Lit.int .u32 n).wf = true := by
  obtain ⟨fuel, hf⟩ := h
  obtain ⟨xs, m, rfl, hx, hl, hxl, hi⟩ := DataW.trod_struct Try.underlying53 hf
  rw [show Try.prog.cellsOf 53 = 66 by kernel_rfl] at hl
  have hx4 : xs.length = 4 := hxl
  have c22 : Try.prog.cellsOf 22 = 32 := by kernel_rfl
  have c50 : Try.prog.cellsOf 50 = 1 := by kernel_rfl
  have c5 : Try.prog.cellsOf 5 = 1 := by kernel_rfl
  have h0 : DataW.trod enc Try.prog W base spare held m 22 ((v.cells.toList.drop 0).take (Try.prog.cellsOf 22)) = xs[0]? := hi 0 _ rfl
  have h1 : DataW.trod enc Try.prog W base spare held m 22 ((v.cells.toList.drop 32).take (Try.prog.cellsOf 22)) = xs[1]? := hi 1 _ rfl
  have h2 : DataW.trod enc Try.prog W base spare held m 50 ((v.cells.toList.drop 64).take (Try.prog.cellsOf 50)) = xs[2]? := hi 2 _ rfl
  have h3 : DataW.trod enc Try.prog W base spare held m 50 ((v.cells.toList.drop 65).take (Try.prog.cellsOf 50)) = xs[3]? := hi 3 _ rfl
  rw [c22, List.getElem?_eq_getElem (by omega)] at h0 h1
  rw [c50, List.getElem?_eq_getElem (by omega)] at h2 h3
  obtain ⟨La, e0, l0, w0⟩ := open_cells Try.underlying22 Try.underlying5 c22 c5 h0
  obtain ⟨Lb, e1, l1, w1⟩ := open_cells Try.underlying22 Try.underlying5 c22 c5 h1
  obtain ⟨a, e2, _, w2⟩ := DataW.trod_int Try.underlying50 h2
  obtain ⟨b, e3, _, w3⟩ := DataW.trod_int Try.underlying50 h3
  have h66 := four_parts v.cells.toList hl
  rw [e0, e1, e2, e3] at h66
  refine ⟨La, Lb, a, b, ?_, l0, w0, l1, w1, w2, w3⟩
  cases v with
  | agg cs =>
    have h4 : cs.toList = La.map (Value.int .u8) ++ Lb.map (Value.int .u8) ++ [Value.int .u32 a, Value.int .u32 b] := by
      refine Eq.trans (show cs.toList = _ from h66) ?_
      rw [List.append_assoc (_ ++ _)]
      rfl
    have h5 : cs = (La.map (Value.int .u8) ++ Lb.map (Value.int .u8) ++ [Value.int .u32 a, Value.int .u32 b]).toArray := by
      rw [← h4]
    exact congrArg Value.agg h5
  | _ => exfalso; simp [Value.cells] at hl
end Go.Proofs.Ytciakfhjjnmeeaa

namespace Go.Proofs.Ytciakfhjjnmeeaa
open Go.ChangeShapes Go.WideShapes Go.ChangeAt Go.RowKit Go.Deep

theorem cellsAt_of {w : World} {base n : Nat} {a : Addr} {cs : List Value} (h : w.cells? base a n = some cs) : cs.length = n ∧ CellsAt w a cs.toArray := by
  obtain ⟨_, h2, h3⟩ := World.cells?_some h
  refine ⟨h2, fun j v hv => ?_⟩
  have hv' : cs[j]? = some v := by simpa using hv
  rw [h3 j (by rw [← h2]; exact (List.getElem?_eq_some_iff.1 hv').1), hv']
section
variable {H : Type} {enc : TypeId × Value → H} {P : Program} {W : World}
/-- Every row of a slice that comes in; and how many there are at the most. -/
theorem open_rows {t e : TypeId} {k : Nat} {p : Option Addr} {n c : Nat} {d : DataW H} {ps : List MemPlace} (ht : P.underlying t = some (.slice e)) (hc : P.cellsOf e = k) (hk : 0 < k) (h : DataW.Trod enc P W 0 (fun _ => true) true t (.slice p n c) d ps) :
    (∀ i, i < n → ∃ a cs m D Pl, p = some a ∧ a.block < W.heap.size ∧ cs.length = k ∧ CellsAt W (a.add (i * k)) cs.toArray ∧ DataW.trod enc P W 0 (fun _ => true) true m e cs = some (D, Pl)) ∧ (d = .nil ∧ n = 0 ∨ ∃ el sp, d = .slice el sp ∧ el.length = n) := by
  obtain ⟨fuel, hf⟩ := h
  rcases open_slice ht hf with ⟨h0, hx⟩ | ⟨a, len, cap, m, q, D, Pl, h0, hb, hl, hm, hme, hx, hr⟩
  · have e : Value.slice p n c = .slice none 0 0 := by simpa [Value.cells] using h0
    injection e with e1 e2 e3
    subst e1; subst e2; subst e3
    simp only [Prod.mk.injEq] at hx
    exact ⟨fun i hi => absurd hi (by omega), .inl ⟨hx.1, rfl⟩⟩
  · have e : Value.slice p n c = .slice (some a) len cap := by simpa [Value.cells] using h0
    injection e with e1 e2 e3
    subst e1; subst e2; subst e3
    simp only [Prod.mk.injEq] at hx
    refine ⟨fun i hi => ?_, .inr ⟨_, _, hx.1, by simp⟩⟩
    have him : i < m := by
      rw [hme]; simp only [if_true]; omega
    obtain ⟨cs, h1, h2⟩ := hr i him
    rw [hc] at h1
    obtain ⟨h3, h4⟩ := cellsAt_of h1
    refine ⟨a, cs, q, D i, Pl i, rfl, ?_, h3, h4, h2⟩
    have := World.cells?_block h1 hk
    rwa [add_block] at this
end
/-- From a proof for each i below n to a function. -/
theorem pick_fun {α : Type} (a0 : α) {n : Nat} {p : Nat → α → Prop} (h : ∀ i, i < n → ∃ x, p i x) : ∃ f : Nat → α, ∀ i, i < n → p i (f i) := by
  haveI : Inhabited α := ⟨a0⟩
  exact choose_lt h
end Go.Proofs.Ytciakfhjjnmeeaa

namespace Go.Proofs.Ytciakfhjjnmeeaa

theorem holds_leaving {p : Pinned} {s : OpenSpec} {c : OpenClaim} (hw : c.wf s = true) (hlv : c.leaving = true) (hst : c.start = .entering) (hsp : c.stops = [])
    (h : ({ c with leaving := false } : OpenClaim).holds p s) : c.holds p s := by
  obtain ⟨_, h1, h2, h3, h4, h5, h6, h7, f, fn, r1, r2, r3, r4, r5, r6, r7, r8, r9, r10, r11, r12, r13, r14, r15, r16, r17, r18, r19, r20, r21, L, hL, hr⟩ := h
  refine ⟨hw, h1, h2, h3, h4, h5, h6, h7, f, fn, r1, r2, r3, r4, r5, r6, r7, r8, r9, r10, r11, r12, r13, r14, r15, r16, r17, r18, r19, r20, r21, L, hL, fun os ho hq H enc inj => ?_⟩
  have k := hr os ho hq H enc inj
  unfold OpenClaim.form at k ⊢
  have hst' : ({ c with leaving := false } : OpenClaim).start = .entering := hst
  have hsp' : ({ c with leaving := false } : OpenClaim).stops = [] := hsp
  rw [hst', hsp'] at k
  rw [hst, hsp]
  intro F
  have k2 := k F
  have e2 : c.atReturn p.checked.prog = leavingAtReturn p.checked.prog := by unfold OpenClaim.atReturn; rw [hlv]
  rw [e2]
  obtain ⟨j1, j2, j3, j4, j5⟩ := k2
  refine ⟨j1, j2, j3, j4, fun w t i hf => ?_⟩
  obtain ⟨n, v, w', k1, k2, k3, k4, ⟨j, last, l1, l2, ⟨q, ho, eh⟩⟩, k5⟩ := j5 w t i hf
  exact ⟨n, v, w', k1, k2, k3, k4, ⟨j, last, l1, l2, ho, onlyLeaving_of_quiet q, eh⟩, k5⟩
end Go.Proofs.Ytciakfhjjnmeeaa

namespace Go.Proofs.Ytciakfhjjnmeeaa
open Go.ChangeShapes Go.WideShapes Go.ChangeAt Go.RowKit

theorem bulk_one {H : Type} (d : DataW H) : 1 ≤ Rows.uptoBulk d := by
  cases d with
  | lit l => cases l <;> simp [Rows.uptoBulk]
  | _ => simp [Rows.uptoBulk]
theorem bulk_len {H : Type} (l : List (DataW H)) : l.length ≤ Rows.uptoBulkAll l := by
  induction l with
  | nil => simp [Rows.uptoBulkAll]
  | cons x r ih => have := bulk_one x; simp only [Rows.uptoBulkAll, List.length_cons]; omega
theorem bulk_slice {H : Type} {d : DataW H} {n : Nat} (h : d = .nil ∧ n = 0 ∨ ∃ el sp, d = .slice el sp ∧ el.length = n) : n ≤ Rows.uptoBulk d := by
  rcases h with ⟨_, rfl⟩ | ⟨el, sp, rfl, rfl⟩
  · omega
  · have h1 := bulk_len el
    simp only [Rows.uptoBulk]
    omega
theorem four_cells {l : List Value} (h : l.length = 4) {a b c d : Value} (h0 : (l.drop 0).take 1 = [a]) (h1 : (l.drop 1).take 1 = [b]) (h2 : (l.drop 2).take 1 = [c]) (h3 : (l.drop 3).take 1 = [d]) : l = [a, b, c, d] := by
  match l, h with
  | [x, y, z, u], _ => simp_all
theorem open_step {H : Type} {enc : TypeId × Value → H} {W : World} {fuel : Nat} {cs : List Value} {x : DataW H × List MemPlace}
    (h : DataW.trod enc Try.prog W 0 (fun _ => true) true fuel 63 cs = some x) :
    ∃ q : Int × Int × Int × Int, cs = [.int .i64 q.1, .int .i64 q.2.1, .int .i64 q.2.2.1, .int .u64 q.2.2.2] ∧ (Lit.int .u64 q.2.2.2).wf = true := by
  obtain ⟨xs, m, rfl, hx, hl, hxl, hi⟩ := DataW.trod_struct Try.underlying63 h
  rw [show Try.prog.cellsOf 63 = 4 by kernel_rfl] at hl
  have hx4 : xs.length = 4 := hxl
  have c3 : Try.prog.cellsOf 3 = 1 := by kernel_rfl
  have c23 : Try.prog.cellsOf 23 = 1 := by kernel_rfl
  have h0 : DataW.trod enc Try.prog W 0 (fun _ => true) true m 3 ((cs.drop 0).take (Try.prog.cellsOf 3)) = xs[0]? := hi 0 _ rfl
  have h1 : DataW.trod enc Try.prog W 0 (fun _ => true) true m 3 ((cs.drop 1).take (Try.prog.cellsOf 3)) = xs[1]? := hi 1 _ rfl
  have h2 : DataW.trod enc Try.prog W 0 (fun _ => true) true m 3 ((cs.drop 2).take (Try.prog.cellsOf 3)) = xs[2]? := hi 2 _ rfl
  have h3 : DataW.trod enc Try.prog W 0 (fun _ => true) true m 23 ((cs.drop 3).take (Try.prog.cellsOf 23)) = xs[3]? := hi 3 _ rfl
  rw [c3, List.getElem?_eq_getElem (by omega)] at h0 h1 h2
  rw [c23, List.getElem?_eq_getElem (by omega)] at h3
  obtain ⟨a0, e0, _, _⟩ := DataW.trod_int Try.underlying3 h0
  obtain ⟨a1, e1, _, _⟩ := DataW.trod_int Try.underlying3 h1
  obtain ⟨a2, e2, _, _⟩ := DataW.trod_int Try.underlying3 h2
  obtain ⟨a3, e3, _, w3⟩ := DataW.trod_int Try.underlying23 h3
  refine ⟨(a0, a1, a2, a3), ?_, w3⟩
  exact four_cells hl e0 e1 e2 e3

set_option maxRecDepth 100000 in
theorem fieldPlays_contract (H : Type) (enc : TypeId × Value → H) (W : World) (base : Nat) (args : Array Value) (ds gs : List (DataW H)) (before : List MemPlace)
    (hval : ∀ (j : Nat) t v, Try.f11.params[j]? = some t → args[j]? = some v → Value.okWide Try.prog W .any base t v)
    (hW : DataW.Whole enc Try.prog Try.f11.params.toList Rows.fieldPlaysSpec.vars false W args.toList ds gs before) (hk : Rows.uptoSmall H (ds ++ gs) = true) :
    Calls Try.prog 11 args W fun e W' => ∃ v, e = .returned v ∧ Rows.fieldPlaysSpec.post enc Try.prog Try.f11 false true false false W args v W' := by
  have hW' := hW
  obtain ⟨p, q, hA0, hV, rfl, hfz, hnd⟩ := hW
  have hA : DataW.TrodAll enc Try.prog W 0 (fun _ => true) true Try.f11.params.toList args.toList ds p := hA0
  rw [Try.params11] at hA hval
  obtain ⟨v0, vs0, d0, ds0, p0, q0, hargs, rfl, rfl, h0, r0⟩ := trodAll_cons hA
  obtain ⟨v1, vs1, d1, ds1, p1, q1, rfl, rfl, rfl, h1, r1⟩ := trodAll_cons r0
  obtain ⟨rfl, rfl, rfl⟩ := trodAll_nil r1
  obtain rfl : args = #[v0, v1] := by cases args; simp_all
  obtain ⟨rfl, rfl⟩ := trodVars_none hV
  have k0 := h0
  have lt0 : ∀ x ∈ p0, x.block < W.heap.size := by obtain ⟨m, hm⟩ := k0; exact DataW.trod_lt m _ _ _ hm
  have k1 := h1
  have lt1 : ∀ x ∈ p1, x.block < W.heap.size := by obtain ⟨m, hm⟩ := k1; exact DataW.trod_lt m _ _ _ hm
  obtain ⟨a0, n0, c0, rfl⟩ := okWide_slice Try.underlying57 (hval 0 57 v0 rfl rfl)
  obtain ⟨a1, n1, c1, rfl⟩ := okWide_slice Try.underlying58 (hval 1 58 v1 rfl rfl)
  obtain ⟨o0, b0⟩ := open_rows Try.underlying57 (k := 32) (by kernel_rfl) (by decide) h0
  obtain ⟨o1, b1⟩ := open_rows Try.underlying58 (k := 4) (by kernel_rfl) (by decide) h1
  clear hA0
  simp only [List.append_nil] at hk
  have hb : Rows.uptoBulkAll [d0, d1] ≤ 1048576 := of_decide_eq_true hk
  simp only [Rows.uptoBulkAll] at hb
  have hn0 := bulk_slice b0
  have hn1 := bulk_slice b1
  obtain ⟨bs, hbs⟩ := pick_fun (α := List Int) [] (n := n0) (p := fun i L => (L.length = 32 ∧ Byt L) ∧ ∃ a, a0 = some a ∧ a.block < W.heap.size ∧ (vals L).size = 32 ∧ CellsAt W (a.add (i * 32)) (vals L)) (fun i hi => by
    obtain ⟨a, cs, m, D, Pl, e1, e2, e3, e4, e5⟩ := o0 i hi
    obtain ⟨L, f1, f2, f3⟩ := open_cells Try.underlying22 Try.underlying5 (by kernel_rfl) (by kernel_rfl) e5
    subst f1
    exact ⟨L, ⟨f2, byt_of_wf f3⟩, a, e1, e2, by rw [vals_size, f2], e4⟩)
  obtain ⟨st, hst⟩ := pick_fun (α := Int × Int × Int × Nat) (0, 0, 0, 0) (n := n1) (p := fun i q => q.2.2.2 < 18446744073709551616 ∧ ∃ a, a1 = some a ∧ a.block < W.heap.size ∧ (#[Value.int .i64 q.1, .int .i64 q.2.1, .int .i64 q.2.2.1, .int .u64 q.2.2.2] : Array Value).size = 4 ∧ CellsAt W (a.add (i * 4)) #[.int .i64 q.1, .int .i64 q.2.1, .int .i64 q.2.2.1, .int .u64 q.2.2.2]) (fun i hi => by
    obtain ⟨a, cs, m, D, Pl, e1, e2, e3, e4, e5⟩ := o1 i hi
    obtain ⟨⟨x0, x1, x2, x3⟩, f1, f2⟩ := open_step e5
    have bd := bounds_u64 f2
    obtain ⟨N, hN⟩ := Int.eq_ofNat_of_zero_le bd.1
    simp only [] at hN f1 bd
    subst hN
    subst f1
    exact ⟨(x0, x1, x2, N), by simp only []; omega, a, e1, e2, rfl, e4⟩)
  refine (fieldPlays_walk a0 n0 c0 bs a1 n1 c1 (fun i => (st i).1) (fun i => (st i).2.1) (fun i => (st i).2.2.1) (fun i => (st i).2.2.2) W (by omega) (by omega) (fun i hi => (hbs i hi).2) (fun i hi => (hbs i hi).1) (fun i hi => (hst i hi).2) (fun i hi => (hst i hi).1)).mono fun e W' ⟨he, bel⟩ => ?_
  subst he
  exact ⟨_, rfl, _, _, _, [], _, [], hW', trodAll_mk1 (shut_bool Try.underlying4 _), (trodAll_cons_mk (Below.trod laidOut (by kernel_rfl) (of_decide_eq_true (by kernel_rfl)) k0 bel lt0) (trodAll_cons_mk (Below.trod laidOut (by kernel_rfl) (of_decide_eq_true (by kernel_rfl)) k1 bel lt1) trodAll_mk0)), rfl, bel.frame _, fun h => by cases h⟩

set_option maxRecDepth 100000 in
theorem fieldPlays_lifted (os : Os) (started : os.Started) (H : Type) (enc : TypeId × Value → H) (F : Stop.Interp) :
    ReturnsInHanded {} Try.checked os 11 .any ((Rows.OpenSpec.upto Rows.fieldPlaysSpec).pre6 enc Try.prog Try.f11 Rows.fieldPlaysUptoRow.domain false) (((Rows.OpenSpec.upto Rows.fieldPlaysSpec).at F).post enc Try.prog Try.f11 false true false false) := by
  refine returnsInHanded_of_cond (C := Try.checked) (s := Rows.OpenSpec.upto Rows.fieldPlaysSpec) (k := Rows.uptoSmall) rfl own started (by kernel_rfl) Try.func11
    (OpenSpec.witness (enc := enc) (C := Try.checked) (s := Rows.OpenSpec.upto Rows.fieldPlaysSpec) (k := Rows.uptoSmall) rfl false ⟨#[], #[.slice none 0 0, .slice none 0 0], []⟩ 8 (by kernel_rfl) (by kernel_rfl) (by kernel_rfl)
      (x := ([.nil, .nil], [], [])) (by kernel_rfl) rfl (by kernel_rfl)) ?_
  intro W base args ds gs before hval hW _ hk _
  exact fieldPlays_contract H enc W base args ds gs before hval hW hk

theorem fieldPlays_holds : Rows.FieldPlaysUptoSaid :=
  holds_leaving (by kernel_rfl) rfl rfl rfl
    (OpenClaim.holds_of_cond 11 Try.f11 rfl rfl rfl rfl rfl rfl rfl ⟨rfl, rfl, rfl, rfl, rfl⟩ rfl rfl rfl rfl rfl (by kernel_rfl) Try.func11 (by kernel_rfl)
      (of_decide_eq_true (by kernel_rfl)) (by unfold Func.isWrapper; first | (rw [if_pos (by decide +kernel)]; kernel_rfl) | (rw [if_neg (by decide +kernel)]; exact ⟨rfl, rfl⟩))
      (fun os started H enc _ F => fieldPlays_lifted os started H enc F))

#print axioms fieldPlays_holds
end Go.Proofs.Ytciakfhjjnmeeaa
