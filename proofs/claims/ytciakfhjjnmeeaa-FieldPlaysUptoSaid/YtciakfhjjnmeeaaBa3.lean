/- Texts of this proof's own, one behind the other: plain laws and walks of the packages field and ladder. No condition. -/
import Derived.Test.YtciakfhjjnmeeaaBa0
import Derived.Test.YtciakfhjjnmeeaaBa1
import Derived.Test.YtciakfhjjnmeeaaBa2
namespace Go.Proofs.Ytciakfhjjnmeeaa
open Go.RowKit Nt

theorem bytes_val (x0 x1 x2 x3 x4 : Int) (n : F) (w : World) (V : Nat) (h : El x0 x1 x2 x3 x4 n) (hV : n.val = V) :
    Calls Try.prog 20 #[ev x0 x1 x2 x3 x4] w fun e w' => e = .returned (.agg (vals (bytesN V))) ∧ Below w.heap.size w w' := by
  subst hV; exact bytes_any x0 x1 x2 x3 x4 n w h

theorem pb_bytes (k : Nat) (hk : k ≤ 237) : pb k = bytesN (57896044618658097711785492504343953926634992332820282019728792003956564819949 - k) :=
  bytes_of_num _ (pb_len _) (pb_byt _ (by omega) (by omega)) _ (by rw [pb_num]; omega)

theorem numF_pb0 : numF (pb 0) = 0 := by
  rw [numF, pb_num]; decide

theorem ld_row_on {P : Program} {ops : Array Oper} {rest : List Oper} {o : Oper} {a : Act} {w : World} {Q : Exit → Act → World → Prop} (hgd : Region.wanted o (yielded ops a.tmps) = true) (ty : TypeId) (x : Operand) (ho : o.op = .load ty x)
    (g : Nat) (hx : a.eval x = .pointer (some ⟨g, 0, none⟩)) (cs : Array Value) (t : TypeId) (hg : w.heap[g]? = some (.cells cs t (0, 0))) (n : Nat) (hT : RowT P ty n) (hn : cs.size = n)
    (h : wpList P ops Q rest (a.put o.dst (.agg cs)) w) : wpList P ops Q (o :: rest) a w := by
  obtain ⟨d, h1, h2, h3⟩ := hT
  subst hn
  exact wpList_step fun K hK => by
    simp only [hgd, if_true]
    exact wp_load_row ty x ho g hx t cs (0, 0) d hg h1 (by cases d <;> simp_all) h3 (hK _ _ h)

set_option maxHeartbeats 1000000 in
set_option maxRecDepth 100000 in
theorem awake_any (w : World) : Calls Try.prog 24 #[] w fun e w' => e = .returned (.bool true) ∧ Below w.heap.size w w' := by
  have n35 : (Fin.ofNat P 5 * Fin.ofNat P 7).val = 35 := by decide
  have nm1 : (Fin.ofNat P 0 - Fin.ofNat P 1).val = 57896044618658097711785492504343953926634992332820282019728792003956564819948 := by decide
  have n350 : ¬ (Fin.ofNat P 5 * Fin.ofNat P 7) = 0 := by decide
  have hpb1 := Lib.hid (pb_bytes 1 (by omega))
  have N35 := Lib.hid n35
  have NM1 := Lib.hid nm1
  have N350 := Lib.hid n350
  clear n35 nm1 n350
  go_enter Try.func24, Try.ntmps24
  go_wp2_with fail
  refine (small_lit 5 _ (by omega)).mono ?_
  rintro e w1 ⟨a0, a1, a2, a3, a4, rfl, HA, b1⟩
  go_wp2_with fail
  refine (small_lit 7 _ (by omega)).mono ?_
  rintro e w2 ⟨c0, c1, c2, c3, c4, rfl, HC, b2⟩
  go_wp2_with fail
  refine (mul_any _ _ _ _ _ _ _ _ _ _ _ _ _ HA HC).mono ?_
  rintro e w3 ⟨d0, d1, d2, d3, d4, rfl, HD, b3⟩
  have B3 : Below w.heap.size w w3 := below_call b3 (below_call b2 (b1.mono (Nat.le_refl _)))
  clear b1 b2 b3 HA HC
  go_wp2_with fail
  have Ra := row_new (w := w3) (x := .cells #[.int .u64 d0, .int .u64 d1, .int .u64 d2, .int .u64 d3, .int .u64 d4] 26)
  have B4 : Below w.heap.size w (w3.alloc (.cells #[.int .u64 d0, .int .u64 d1, .int .u64 d2, .int .u64 d3, .int .u64 d4] 26)) := B3.alloc B3.size _
  generalize w3.alloc (.cells #[.int .u64 d0, .int .u64 d1, .int .u64 d2, .int .u64 d3, .int .u64 d4] 26) = W1 at *
  have HG := B3.size
  clear B3
  generalize w3.heap.size = ga at *
  clear w3
  refine (small_lit 0 _ (by omega)).mono ?_
  rintro e w1 ⟨a0, a1, a2, a3, a4, rfl, HA, b1⟩
  go_wp2_with fail
  refine (small_lit 1 _ (by omega)).mono ?_
  rintro e w2 ⟨c0, c1, c2, c3, c4, rfl, HC, b2⟩
  go_wp2_with fail
  refine (sub_any _ _ _ _ _ _ _ _ _ _ _ _ _ HA HC).mono ?_
  rintro e w3 ⟨e0, e1, e2, e3, e4, rfl, HE, b3⟩
  have Ra3 := row_call b3 (row_call b2 (row_call b1 Ra))
  have B3 : Below w.heap.size w w3 := below_call b3 (below_call b2 (below_call b1 B4))
  clear b1 b2 b3 HA HC Ra B4
  have Ra := row_alloc (x := .cells #[.int .u64 e0, .int .u64 e1, .int .u64 e2, .int .u64 e3, .int .u64 e4] 26) Ra3
  have Rb := row_new (w := w3) (x := .cells #[.int .u64 e0, .int .u64 e1, .int .u64 e2, .int .u64 e3, .int .u64 e4] 26)
  have B4 : Below w.heap.size w (w3.alloc (.cells #[.int .u64 e0, .int .u64 e1, .int .u64 e2, .int .u64 e3, .int .u64 e4] 26)) := B3.alloc B3.size _
  clear Ra3 B3
  have q35 : ∀ w, (Op.equalIn 10000 22 (.agg (vals (bytesN 35))) (.agg #[.int .u8 35, .int .u8 0, .int .u8 0, .int .u8 0, .int .u8 0, .int .u8 0, .int .u8 0, .int .u8 0, .int .u8 0, .int .u8 0, .int .u8 0, .int .u8 0, .int .u8 0, .int .u8 0, .int .u8 0, .int .u8 0, .int .u8 0, .int .u8 0, .int .u8 0, .int .u8 0, .int .u8 0, .int .u8 0, .int .u8 0, .int .u8 0, .int .u8 0, .int .u8 0, .int .u8 0, .int .u8 0, .int .u8 0, .int .u8 0, .int .u8 0, .int .u8 0])).run Try.prog w = .ok true w := fun w => eq_bytes 35 w
  have qm1 := fun w => eq_bytes 57896044618658097711785492504343953926634992332820282019728792003956564819948 w
  go_wp2_with (first | (refine ld_row_on (by kernel_rfl) 26 (.tmp 1) rfl _ (by rfl) _ _ Ra 5 tElem (by rfl) ?_) | (refine ld_row_on (by kernel_rfl) 26 (.tmp 2) rfl _ (by rfl) _ _ Rb 5 tElem (by rfl) ?_))
  refine (bytes_val _ _ _ _ _ _ _ 35 HD N35.out).mono ?_
  rintro e w4 ⟨rfl, b4⟩
  have Sa := row_call b4 Ra
  have Sb := row_call b4 Rb
  have B5 := below_call b4 B4
  generalize w3.heap.size = gb at *
  clear Ra Rb B4 b4
  go_wp2_with (first | (refine ld_row_on (by kernel_rfl) 26 (.tmp 1) rfl _ (by rfl) _ _ Sa 5 tElem (by rfl) ?_) | (refine ld_row_on (by kernel_rfl) 26 (.tmp 2) rfl _ (by rfl) _ _ Sb 5 tElem (by rfl) ?_))
  refine (bytes_val _ _ _ _ _ _ _ 57896044618658097711785492504343953926634992332820282019728792003956564819948 HE NM1.out).mono ?_
  rintro e w5 ⟨rfl, b5⟩
  have Ra := row_call b5 Sa
  have Rb := row_call b5 Sb
  have B4 := below_call b5 B5
  clear Sa Sb B5 b5
  clear w4
  go_wp2_with (first | (refine ld_row_on (by kernel_rfl) 26 (.tmp 1) rfl _ (by rfl) _ _ Ra 5 tElem (by rfl) ?_) | (refine ld_row_on (by kernel_rfl) 26 (.tmp 2) rfl _ (by rfl) _ _ Rb 5 tElem (by rfl) ?_))
  refine (prime_any 1 _ (by omega) (by omega)).mono ?_
  rintro e w6 ⟨rfl, b6⟩
  rw [show pb 1 = bytesN 57896044618658097711785492504343953926634992332820282019728792003956564819948 from hpb1.out]
  have Sa := row_call b6 Ra
  have Sb := row_call b6 Rb
  have B5 := below_call b6 B4
  clear Ra Rb B4 b6
  clear w5
  go_wp2_with (first | (refine ld_row_on (by kernel_rfl) 26 (.tmp 1) rfl _ (by rfl) _ _ Sa 5 tElem (by rfl) ?_) | (refine ld_row_on (by kernel_rfl) 26 (.tmp 2) rfl _ (by rfl) _ _ Sb 5 tElem (by rfl) ?_))
  refine (prime_any 0 _ (by omega) (by omega)).mono ?_
  rintro e w7 ⟨rfl, b7⟩
  have Ra := row_call b7 Sa
  have Rb := row_call b7 Sb
  have B4 := below_call b7 B5
  clear Sa Sb B5 b7
  clear w6
  go_wp2_with (first | (refine ld_row_on (by kernel_rfl) 26 (.tmp 1) rfl _ (by rfl) _ _ Ra 5 tElem (by rfl) ?_) | (refine ld_row_on (by kernel_rfl) 26 (.tmp 2) rfl _ (by rfl) _ _ Rb 5 tElem (by rfl) ?_))
  refine (of_any (pb 0) _ (pb_len 0) (pb_byt 0 (by omega) (by omega))).mono ?_
  rintro e w8 ⟨p0, p1, p2, p3, p4, rfl, HP, b8⟩
  have Sa := row_call b8 Ra
  have Sb := row_call b8 Rb
  have B5 := below_call b8 B4
  clear Ra Rb B4 b8
  clear w7
  go_wp2_with (first | (refine ld_row_on (by kernel_rfl) 26 (.tmp 1) rfl _ (by rfl) _ _ Sa 5 tElem (by rfl) ?_) | (refine ld_row_on (by kernel_rfl) 26 (.tmp 2) rfl _ (by rfl) _ _ Sb 5 tElem (by rfl) ?_))
  refine (zero_yes _ _ _ _ _ _ _ HP numF_pb0).mono ?_
  rintro e w9 ⟨rfl, b9⟩
  have Ra := row_call b9 Sa
  have Rb := row_call b9 Sb
  have B4 := below_call b9 B5
  clear Sa Sb B5 b9
  clear w8
  go_wp2_with (first | (refine ld_row_on (by kernel_rfl) 26 (.tmp 1) rfl _ (by rfl) _ _ Ra 5 tElem (by rfl) ?_) | (refine ld_row_on (by kernel_rfl) 26 (.tmp 2) rfl _ (by rfl) _ _ Rb 5 tElem (by rfl) ?_))
  refine (zero_no _ _ _ _ _ _ _ HD N350.out).mono ?_
  rintro e w10 ⟨rfl, b10⟩
  have Sa := row_call b10 Ra
  have Sb := row_call b10 Rb
  have B5 := below_call b10 B4
  clear Ra Rb B4 b10
  clear w9 Sa Sb
  go_wp2_with fail
  clear q35 qm1
  go_returns
  exact ⟨rfl, B5⟩
end Go.Proofs.Ytciakfhjjnmeeaa

namespace Go.Proofs.Ytciakfhjjnmeeaa
open Go.RowKit Nt

def IsEl (n : F) (x : Value) : Prop := ∃ z0 z1 z2 z3 z4, x = ev z0 z1 z2 z3 z4 ∧ El z0 z1 z2 z3 z4 n
/-- At block g lies an Elem of the number n. -/
def ElAt (n : F) (g : Nat) (w : World) : Prop := ∃ cs t, w.heap[g]? = some (.cells cs t (0, 0)) ∧ cs.size = 5 ∧ IsEl n (.agg cs)
theorem ElAt.keep {n : F} {g : Nat} {w w' : World} (h : ElAt n g w) (hb : Below w.heap.size w w') : ElAt n g w' := by
  obtain ⟨cs, t, h1, h2⟩ := h; exact ⟨cs, t, row_call hb h1, h2⟩
theorem ElAt.open {n : F} {g : Nat} {w : World} (h : ElAt n g w) : ∃ (z0 z1 z2 z3 z4 : Int) (t : TypeId), w.heap[g]? = some (.cells #[.int .u64 z0, .int .u64 z1, .int .u64 z2, .int .u64 z3, .int .u64 z4] t (0, 0)) ∧ El z0 z1 z2 z3 z4 n := by
  obtain ⟨cs, t, h1, _, z0, z1, z2, z3, z4, he, h3⟩ := h
  injection he with he
  subst he
  exact ⟨z0, z1, z2, z3, z4, t, h1, h3⟩
theorem ElAt.mk {n : F} {g : Nat} {w : World} {z0 z1 z2 z3 z4 : Int} {t : TypeId} (h : w.heap[g]? = some (.cells #[.int .u64 z0, .int .u64 z1, .int .u64 z2, .int .u64 z3, .int .u64 z4] t (0, 0))) (hz : El z0 z1 z2 z3 z4 n) : ElAt n g w :=
  ⟨_, t, h, rfl, z0, z1, z2, z3, z4, rfl, hz⟩
theorem ElAt.lt {n : F} {g : Nat} {w : World} (h : ElAt n g w) : g < w.heap.size := by
  obtain ⟨_, _, _, _, _, _, h, _⟩ := h.open; exact row_lt h
/-- An Elem that lies beneath a bound stays under whatever leaves what lies beneath it. -/
theorem ElAt.under {n : F} {g B : Nat} {w w' : World} (h : ElAt n g w) (hb : Below B w w') (hg : g < B) : ElAt n g w' := by
  obtain ⟨z0, z1, z2, z3, z4, t, h1, h2⟩ := h.open; exact .mk ((hb.block g hg).trans h1) h2
/-- At block g lie the bytes of the list. -/
def BytesAt (l : List Int) (g : Nat) (w : World) : Prop := ∃ t, w.heap[g]? = some (.cells (vals l) t (0, 0))
theorem BytesAt.keep {l : List Int} {g : Nat} {w w' : World} (h : BytesAt l g w) (hb : Below w.heap.size w w') : BytesAt l g w' := by
  obtain ⟨t, h1⟩ := h; exact ⟨t, row_call hb h1⟩
theorem ElAt.of_eq {n : F} {g : Nat} {w w' : World} (h : ElAt n g w) (e : w'.heap[g]? = w.heap[g]?) : ElAt n g w' := by
  obtain ⟨cs, t, h1, h2⟩ := h; exact ⟨cs, t, e.trans h1, h2⟩
theorem BytesAt.lt {l : List Int} {g : Nat} {w : World} (h : BytesAt l g w) : g < w.heap.size := by
  obtain ⟨t, h⟩ := h; exact row_lt h
theorem BytesAt.of_eq {l : List Int} {g : Nat} {w w' : World} (h : BytesAt l g w) (e : w'.heap[g]? = w.heap[g]?) : BytesAt l g w' := by
  obtain ⟨t, h1⟩ := h; exact ⟨t, e.trans h1⟩
theorem BytesAt.under {l : List Int} {g B : Nat} {w w' : World} (h : BytesAt l g w) (hb : Below B w w') (hg : g < B) : BytesAt l g w' := h.of_eq (hb.block g hg)
/-- A row of n cells, whatever is in it. -/
def RowAt (n g : Nat) (w : World) : Prop := ∃ cs t, w.heap[g]? = some (.cells cs t (0, 0)) ∧ cs.size = n
theorem RowAt.of_eq {n g : Nat} {w w' : World} (h : RowAt n g w) (e : w'.heap[g]? = w.heap[g]?) : RowAt n g w' := by
  obtain ⟨cs, t, h1, h2⟩ := h; exact ⟨cs, t, e.trans h1, h2⟩
theorem RowAt.keep {n g : Nat} {w w' : World} (h : RowAt n g w) (hb : Below w.heap.size w w') : RowAt n g w' := by
  obtain ⟨cs, t, h1, h2⟩ := h; exact ⟨cs, t, row_call hb h1, h2⟩
/-- What a store of a whole row leaves. -/
def Put (g : Nat) (w w' : World) : Prop := (∀ k, k ≠ g → w'.heap[k]? = w.heap[k]?) ∧ Below g w w'
theorem st_el {ops : Array Oper} {rest : List Oper} {o : Oper} {a : Act} {w : World} {Q : Exit → Act → World → Prop} {n : F} (hgd : o.guard = none) (x y : Operand) (ho : o.op = .store 26 x y) (hd : o.dst = none)
    (g : Nat) (v : Value) (hx : a.eval x = .pointer (some ⟨g, 0, none⟩)) (hy : a.eval y = v) (hv : IsEl n v) (hr : RowAt 5 g w)
    (h : ∀ w', ElAt n g w' → Put g w w' → wpList Try.prog ops Q rest a w') : wpList Try.prog ops Q (o :: rest) a w := by
  obtain ⟨z0, z1, z2, z3, z4, rfl, hz⟩ := hv
  obtain ⟨cs, t, h1, h2⟩ := hr
  refine st_row hgd _ x y ho g _ hx hy t cs h1 5 tElem rfl h2 (ev_one ..) ?_
  rw [hd]
  exact h _ (.mk (row_put h1) hz) ⟨fun k hk => setRow_other w g k _ hk, below_setRow (Below.refl _ _) (Nat.le_refl _) _⟩
theorem st_by {ops : Array Oper} {rest : List Oper} {o : Oper} {a : Act} {w : World} {Q : Exit → Act → World → Prop} {l : List Int} (hgd : o.guard = none) (x y : Operand) (ho : o.op = .store 22 x y) (hd : o.dst = none)
    (g : Nat) (v : Value) (hx : a.eval x = .pointer (some ⟨g, 0, none⟩)) (hy : a.eval y = v) (hv : v = .agg (vals l)) (hl : l.length = 32) (hr : RowAt 32 g w)
    (h : ∀ w', BytesAt l g w' → Put g w w' → wpList Try.prog ops Q rest a w') : wpList Try.prog ops Q (o :: rest) a w := by
  subst hv
  obtain ⟨cs, t, h1, h2⟩ := hr
  refine st_row hgd _ x y ho g _ hx hy t cs h1 32 tBytes (by rw [vals_size, hl]) h2 (vals_one _) ?_
  rw [hd]
  exact h _ ⟨t, row_put h1⟩ ⟨fun k hk => setRow_other w g k _ hk, below_setRow (Below.refl _ _) (Nat.le_refl _) _⟩
theorem op_ld_el {o : Oper} {a : Act} {w : World} {Q : Exit → Act → World → Prop} {n : F} {d : Nat} {K : Act → World → Prop} (x : Operand) (ho : o.op = .load 26 x) (hd : o.dst = some d)
    (g : Nat) (hx : a.eval x = .pointer (some ⟨g, 0, none⟩)) (h : ElAt n g w) (hK : ∀ x w', IsEl n x → Below w.heap.size w w' → K (a.put (some d) x) w') : o.wp Try.prog a w K Q := by
  obtain ⟨cs, t, h1, h2, h3⟩ := h
  exact op_ld (V := IsEl n) _ x ho hd g hx cs t h1 5 tElem h2 h3 hK
theorem op_ld_by {o : Oper} {a : Act} {w : World} {Q : Exit → Act → World → Prop} {l : List Int} {d : Nat} {K : Act → World → Prop} (x : Operand) (ho : o.op = .load 22 x) (hd : o.dst = some d)
    (g : Nat) (hx : a.eval x = .pointer (some ⟨g, 0, none⟩)) (h : BytesAt l g w) (hl : l.length = 32) (hK : ∀ x w', x = .agg (vals l) → Below w.heap.size w w' → K (a.put (some d) x) w') : o.wp Try.prog a w K Q := by
  obtain ⟨t, h1⟩ := h
  exact op_ld (V := (· = .agg (vals l))) _ x ho hd g hx (vals l) t h1 32 tBytes (by rw [vals_size, hl]) rfl hK

section
variable {x y : Value} {n m : F}
theorem add_el (hx : IsEl n x) (hy : IsEl m y) (w : World) : Calls Try.prog 30 #[x, y] w (Gives (IsEl (n + m)) w) := by
  obtain ⟨_, _, _, _, _, rfl, h1⟩ := hx; obtain ⟨_, _, _, _, _, rfl, h2⟩ := hy
  exact (add_any _ _ _ _ _ _ _ _ _ _ _ _ w h1 h2).mono fun _ _ ⟨z0, z1, z2, z3, z4, e1, e2, e3⟩ => ⟨_, e1, ⟨z0, z1, z2, z3, z4, rfl, e2⟩, e3⟩
theorem sub_el (hx : IsEl n x) (hy : IsEl m y) (w : World) : Calls Try.prog 31 #[x, y] w (Gives (IsEl (n - m)) w) := by
  obtain ⟨_, _, _, _, _, rfl, h1⟩ := hx; obtain ⟨_, _, _, _, _, rfl, h2⟩ := hy
  exact (sub_any _ _ _ _ _ _ _ _ _ _ _ _ w h1 h2).mono fun _ _ ⟨z0, z1, z2, z3, z4, e1, e2, e3⟩ => ⟨_, e1, ⟨z0, z1, z2, z3, z4, rfl, e2⟩, e3⟩
theorem mul_el (hx : IsEl n x) (hy : IsEl m y) (w : World) : Calls Try.prog 32 #[x, y] w (Gives (IsEl (n * m)) w) := by
  obtain ⟨_, _, _, _, _, rfl, h1⟩ := hx; obtain ⟨_, _, _, _, _, rfl, h2⟩ := hy
  exact (mul_any _ _ _ _ _ _ _ _ _ _ _ _ w h1 h2).mono fun _ _ ⟨z0, z1, z2, z3, z4, e1, e2, e3⟩ => ⟨_, e1, ⟨z0, z1, z2, z3, z4, rfl, e2⟩, e3⟩
theorem neg_el (hx : IsEl n x) (w : World) : Calls Try.prog 29 #[x] w (Gives (IsEl (0 - n)) w) := by
  obtain ⟨_, _, _, _, _, rfl, h1⟩ := hx
  exact (neg_any _ _ _ _ _ _ w h1).mono fun _ _ ⟨z0, z1, z2, z3, z4, e1, e2, e3⟩ => ⟨_, e1, ⟨z0, z1, z2, z3, z4, rfl, e2⟩, e3⟩
theorem square_el (hx : IsEl n x) (w : World) : Calls Try.prog 33 #[x] w (Gives (IsEl (n * n)) w) := by
  obtain ⟨_, _, _, _, _, rfl, h1⟩ := hx
  exact (square_any _ _ _ _ _ _ w h1).mono fun _ _ ⟨z0, z1, z2, z3, z4, e1, e2, e3⟩ => ⟨_, e1, ⟨z0, z1, z2, z3, z4, rfl, e2⟩, e3⟩
theorem small_ev (k : Nat) (h : k < 18446744073709551616) (w : World) : Calls Try.prog 22 #[.int .u64 k] w (Gives (IsEl (Fin.ofNat P k)) w) :=
  (small_lit k w h).mono fun _ _ ⟨z0, z1, z2, z3, z4, e1, e2, e3⟩ => ⟨_, e1, ⟨z0, z1, z2, z3, z4, rfl, e2⟩, e3⟩
theorem small_evl (k : Nat) (h : k < 18446744073709551616) (he : Fin.ofNat P k = n) (w : World) : Calls Try.prog 22 #[.int .u64 k] w (Gives (IsEl n) w) := by
  subst he; exact small_ev k h w
theorem of_el (l : List Int) (hl : l.length = 32) (hb : Byt l) (w : World) : Calls Try.prog 19 #[.agg (vals l)] w (Gives (IsEl (numF l)) w) :=
  (of_any l w hl hb).mono fun _ _ ⟨z0, z1, z2, z3, z4, e1, e2, e3⟩ => ⟨_, e1, ⟨z0, z1, z2, z3, z4, rfl, e2⟩, e3⟩
theorem bytes_el (hx : IsEl n x) (w : World) : Calls Try.prog 20 #[x] w (Gives (· = .agg (vals (bytesN n.val))) w) := by
  obtain ⟨_, _, _, _, _, rfl, h1⟩ := hx
  exact (bytes_any _ _ _ _ _ _ w h1).mono fun _ _ ⟨e1, e3⟩ => ⟨_, e1, rfl, e3⟩
theorem equal_el (hx : IsEl n x) (hy : IsEl m y) (w : World) : Calls Try.prog 25 #[x, y] w (Gives (· = .int .u64 (mk (decide (n = m)))) w) := by
  obtain ⟨_, _, _, _, _, rfl, h1⟩ := hx; obtain ⟨_, _, _, _, _, rfl, h2⟩ := hy
  exact (equal_any _ _ _ _ _ _ _ _ _ _ _ _ w h1 h2).mono fun _ _ ⟨e1, e3⟩ => ⟨_, e1, rfl, e3⟩
theorem zero_el (hx : IsEl n x) (w : World) : Calls Try.prog 28 #[x] w (Gives (· = .int .u64 (mk (decide (n = 0)))) w) := by
  obtain ⟨_, _, _, _, _, rfl, h1⟩ := hx
  exact (zero_any _ _ _ _ _ _ w h1).mono fun _ _ ⟨e1, e3⟩ => ⟨_, e1, rfl, e3⟩
theorem mbit_ev (b : Int) (h0 : 0 ≤ b) (h1 : b < 18446744073709551616) (w : World) : Calls Try.prog 75 #[.int .u64 b] w (Gives (· = .int .u64 (mk (decide (b % 2 = 1)))) w) :=
  (mbit_any b w h0 h1).mono fun _ _ ⟨e1, e3⟩ => ⟨_, e1, rfl, by subst e3; exact Below.refl _ _⟩
theorem pick_el (c : Bool) (hx : IsEl n x) (hy : IsEl m y) (w : World) : Calls Try.prog 39 #[.int .u64 (mk c), x, y] w (Gives (IsEl (selF c n m)) w) := by
  obtain ⟨_, _, _, _, _, rfl, h1⟩ := hx; obtain ⟨_, _, _, _, _, rfl, h2⟩ := hy
  exact (pick_any c (mk c) _ _ _ _ _ _ _ _ _ _ _ _ w (mk_range c) (by cases c <;> decide) h1 h2).mono fun _ _ ⟨z0, z1, z2, z3, z4, e1, e2, e3⟩ => ⟨_, e1, ⟨z0, z1, z2, z3, z4, rfl, e2⟩, e3⟩
theorem zero_el_yes (hx : IsEl n x) (h : n = 0) (w : World) : Calls Try.prog 28 #[x] w (Gives (· = .int .u64 18446744073709551615) w) := by
  obtain ⟨_, _, _, _, _, rfl, h1⟩ := hx
  exact (zero_yes _ _ _ _ _ _ w h1 h).mono fun _ _ ⟨e1, e3⟩ => ⟨_, e1, rfl, e3⟩
theorem one_el (hx : IsEl n x) (hy : IsEl m y) (h : n = m) (w : World) : Calls Try.prog 27 #[x, y] w (Gives (· = .bool true) w) := by
  obtain ⟨_, _, _, _, _, rfl, h1⟩ := hx; obtain ⟨_, _, _, _, _, rfl, h2⟩ := hy
  exact (one_yes _ _ _ _ _ _ _ _ _ _ _ _ w h1 h2 h).mono fun _ _ ⟨e1, e3⟩ => ⟨_, e1, rfl, e3⟩
theorem zero_el_no (hx : IsEl n x) (h : ¬ n = 0) (w : World) : Calls Try.prog 28 #[x] w (Gives (· = .int .u64 0) w) := by
  obtain ⟨_, _, _, _, _, rfl, h1⟩ := hx
  exact (zero_no _ _ _ _ _ _ w h1 h).mono fun _ _ ⟨e1, e3⟩ => ⟨_, e1, rfl, e3⟩
end
theorem eql_mk {p q : Operand} (c : Bool) (w : World) : (do eqGuard .eql 23 p q (.int .u64 (mk c)) (.int .u64 18446744073709551615); binOp .eql 23 (.int .u64 (mk c)) (.int .u64 18446744073709551615) : Sem Value).run Try.prog w = .ok (.bool c) w := by
  cases c <;> kernel_rfl
theorem neq_same {p q : Operand} (a b : Bool) (h : a = b) (w : World) : (do eqGuard .neq 4 p q (.bool a) (.bool b); binOp .neq 4 (.bool a) (.bool b) : Sem Value).run Try.prog w = .ok (.bool false) w := by
  subst h; cases a <;> kernel_rfl
end Go.Proofs.Ytciakfhjjnmeeaa

namespace Go.Proofs.Ytciakfhjjnmeeaa
open Go.RowKit Nt

theorem fpow_add (a : F) (m : Nat) : ∀ n : Nat, a ^ (m + n) = a ^ m * a ^ n
  | 0 => by rw [Nat.add_zero, pow_zero]; grind
  | n + 1 => by rw [← Nat.add_assoc, pow_succ, pow_succ, fpow_add a m n]; grind
theorem fpow_one (a : F) : a ^ 1 = a := by rw [pow_succ, pow_zero]; grind
theorem fpow_mul (a : F) (m : Nat) : ∀ n : Nat, a ^ (m * n) = (a ^ m) ^ n
  | 0 => by rw [Nat.mul_zero, pow_zero, pow_zero]
  | n + 1 => by rw [Nat.mul_succ, fpow_add, pow_succ, fpow_mul a m n]
theorem mul_fpow (a b : F) : ∀ n : Nat, (a * b) ^ n = a ^ n * b ^ n
  | 0 => by rw [pow_zero, pow_zero, pow_zero]; grind
  | n + 1 => by rw [pow_succ, pow_succ, pow_succ, mul_fpow a b n]; grind
theorem one_fpow : ∀ n : Nat, (1 : F) ^ n = 1
  | 0 => pow_zero 1
  | n + 1 => by rw [pow_succ, one_fpow n]; grind

theorem pow_bit (x : F) (V k : Nat) : x ^ (V / 2 ^ k) = if V / 2 ^ k % 2 = 1 then x ^ (V / 2 ^ (k + 1)) * x ^ (V / 2 ^ (k + 1)) * x else x ^ (V / 2 ^ (k + 1)) * x ^ (V / 2 ^ (k + 1)) := by
  have h : V / 2 ^ (k + 1) = V / 2 ^ k / 2 := by rw [Nat.pow_succ, Nat.div_div_eq_div_mul]
  rw [h]
  generalize V / 2 ^ k = e
  split
  · rename_i h1
    have : e = e / 2 + e / 2 + 1 := by omega
    conv => lhs; rw [this, pow_succ, fpow_add]
  · have : e = e / 2 + e / 2 := by omega
    conv => lhs; rw [this, fpow_add]

theorem pow_top (x : F) (V : Nat) (h : V < 2 ^ 256) : x ^ (V / 2 ^ 256) = 1 := by
  rw [Nat.div_eq_of_lt h, pow_zero]

theorem nat_bit (V k : Nat) : byteOf V (k / 8) / 2 ^ (k % 8) % 2 = V / 2 ^ k % 2 := by
  have h1 := byteOf_testBit V (k / 8) (k % 8)
  have e : 8 * (k / 8) + k % 8 = k := by omega
  rw [e, Nat.testBit_eq_decide_div_mod_eq, Nat.testBit_eq_decide_div_mod_eq] at h1
  have h8 : k % 8 < 8 := Nat.mod_lt _ (by decide)
  simp only [h8, decide_true, Bool.true_and, decide_eq_decide] at h1
  have a := Nat.mod_two_eq_zero_or_one (byteOf V (k / 8) / 2 ^ (k % 8))
  have b := Nat.mod_two_eq_zero_or_one (V / 2 ^ k)
  rcases a with a | a <;> rcases b with b | b <;> simp_all

theorem byteOf_lt (V j : Nat) : byteOf V j < 256 := Nat.mod_lt _ (by decide)

/-- The bytes of 32 bytes' number are these bytes. -/
theorem bytesN_num (l : List Int) (hl : l.length = 32) (hb : Byt l) : l = bytesN (num l).toNat ∧ (num l).toNat < 2 ^ 256 := by
  have h := num_bound l hb
  rw [hl] at h
  refine ⟨bytes_of_num l hl hb _ (by omega), ?_⟩
  have : (256 : Int) ^ 32 = 2 ^ 256 := by decide
  omega
end Go.Proofs.Ytciakfhjjnmeeaa

namespace Go.Proofs.Ytciakfhjjnmeeaa
open Go.RowKit Nt

theorem and_one8 (x : Int) (h0 : 0 ≤ x) (h1 : x < 256) : bits .and .u8 x 1 = x % 2 := by go_bits2

/-- What one bit makes of a power. -/
def stepF (c : Bool) (n x : F) : F := selF c (n * n * x) (n * n)

set_option maxHeartbeats 1000000 in
set_option maxRecDepth 100000 in
theorem take_any (b : Int) (g gx : Nat) (n x : F) (w : World) (hb : 0 ≤ b ∧ b < 18446744073709551616) (hg : ElAt n g w) (hx : ElAt x gx w) (hlt : gx < g) :
    Calls Try.prog 74 #[.int .u64 b, .pointer (some ⟨g, 0, none⟩), .pointer (some ⟨gx, 0, none⟩)] w fun e w' => e = .returned (.tuple #[]) ∧ ElAt (stepF (decide (b % 2 = 1)) n x) g w' ∧ Below g w w' := by
  obtain ⟨z0, z1, z2, z3, z4, tz, RZ, HZ⟩ := hg.open
  have HX := Lib.hid hx
  have HL := Lib.hid hg.lt
  clear hx hg
  go_enter Try.func74, Try.ntmps74
  go_wp2_with (refine ld_row rfl 26 (.tmp 1) rfl _ (by rfl) _ _ RZ 5 tElem (by rfl) ?_)
  refine (square_any _ _ _ _ _ n _ HZ).mono ?_
  rintro e w1 ⟨s0, s1, s2, s3, s4, rfl, HS', b1⟩
  have RZ1 := row_call b1 RZ
  have X1 := HX.out.keep b1
  have B1 : Below g w w1 := b1.mono (Nat.le_of_lt HL.out)
  clear RZ b1 HX
  have EZ := ElAt.mk (row_put (cs' := #[.int .u64 s0, .int .u64 s1, .int .u64 s2, .int .u64 s3, .int .u64 s4]) RZ1) HS'
  obtain ⟨x0, x1, x2, x3, x4, tx, RX, HX⟩ := X1.open
  have EX := ElAt.mk (row_put_other (cs := #[.int .u64 s0, .int .u64 s1, .int .u64 s2, .int .u64 s3, .int .u64 s4]) RX (by omega : gx ≠ g)) HX
  have B2 := below_setRow B1 (Nat.le_refl _) #[.int .u64 s0, .int .u64 s1, .int .u64 s2, .int .u64 s3, .int .u64 s4]
  go_wp2_with (refine st_row rfl 26 (.tmp 1) _ rfl _ _ (by rfl) (by rfl) _ _ RZ1 5 tElem (by rfl) (by rfl) (ev_one ..) ?_)
  generalize w1.setRow g #[.int .u64 s0, .int .u64 s1, .int .u64 s2, .int .u64 s3, .int .u64 s4] = W at *
  clear RZ1 RX HX HS' X1 B1 HZ HL
  refine hide_frame fun t0 HT => ?_
  have HS : t0.size = 13 := by rw [HT]; rfl
  have h0 : t0[0]? = some (.int .u64 b) := by rw [HT]; rfl
  have h1 : t0[1]? = some (.pointer (some ⟨g, 0, none⟩)) := by rw [HT]; rfl
  have h2 : t0[2]? = some (.pointer (some ⟨gx, 0, none⟩)) := by rw [HT]; rfl
  clear HT
  refine wp_region_most 7 (fun i => [6, 7, 8, 9, 10, 11, 12].getD i 0) (fun _ => none) (fun i => [(· = .int .u64 b), (· = .int .u64 (mk (decide (b % 2 = 1)))), IsEl (n * n), IsEl x, IsEl ((n * n) * x), IsEl (n * n), IsEl (selF (decide (b % 2 = 1)) ((n * n) * x) (n * n))].getD i (fun _ => True)) (fun w' => ElAt (n * n) g w' ∧ ElAt x gx w' ∧ Below g w w') 0
    (by kernel_rfl) (by kernel_rfl) (slots_apart (by kernel_rfl)) (slots_lie (by rw [HS]; kernel_rfl)) ⟨EZ, EX, B2.drew⟩ (fun _ _ => Nat.zero_le _) (fun w1 w2 h b => ⟨h.1.keep b, h.2.1.keep b, h.2.2.trans (b.mono (Nat.le_of_lt h.1.lt))⟩) ?_ ?_ ?_
  · intro i o hi ho hA
    have hc : i = 0 ∨ i = 1 ∨ i = 2 ∨ i = 3 ∨ i = 4 ∨ i = 5 ∨ i = 6 := by omega
    rcases hc with rfl | rfl | rfl | rfl | rfl | rfl | rfl
    · obtain rfl := Option.some.inj ho
      refine ⟨rfl, fun a w' hS hold hin K hK => ?_⟩
      refine if_always rfl ?_
      exact op_move (V := (· = .int .u64 b)) _ _ rfl rfl (eval_tmp ((hold 0 (slots_not (by kernel_rfl))).trans h0)) rfl hK
    · obtain rfl := Option.some.inj ho
      refine ⟨rfl, fun a w' hS hold hin K hK => ?_⟩
      obtain ⟨y0, x0, rfl⟩ := hin 0 rfl (by omega) rfl
      refine if_always rfl ?_
      exact op_fn1 _ _ _ _ rfl rfl (eval_tmp x0) (by intro args w; kernel_rfl) (mbit_ev b (by omega) (by omega) _) hK
    · obtain rfl := Option.some.inj ho
      refine ⟨rfl, fun a w' hS hold hin K hK => ?_⟩
      refine if_always rfl ?_
      exact op_ld_el (.tmp 1) rfl rfl _ (eval_tmp ((hold 1 (slots_not (by kernel_rfl))).trans h1)) hS.1 hK
    · obtain rfl := Option.some.inj ho
      refine ⟨rfl, fun a w' hS hold hin K hK => ?_⟩
      refine if_always rfl ?_
      exact op_ld_el (.tmp 2) rfl rfl _ (eval_tmp ((hold 2 (slots_not (by kernel_rfl))).trans h2)) hS.2.1 hK
    · obtain rfl := Option.some.inj ho
      refine ⟨rfl, fun a w' hS hold hin K hK => ?_⟩
      obtain ⟨y2, x2, (v2 : IsEl (n * n) y2)⟩ := hin 2 rfl (by omega) rfl
      obtain ⟨y3, x3, (v3 : IsEl x y3)⟩ := hin 3 rfl (by omega) rfl
      refine if_always rfl ?_
      exact op_fn2 _ _ _ _ _ _ rfl rfl (eval_tmp x2) (eval_tmp x3) (by intro args w; kernel_rfl) (mul_el v2 v3 _) hK
    · obtain rfl := Option.some.inj ho
      refine ⟨rfl, fun a w' hS hold hin K hK => ?_⟩
      refine if_always rfl ?_
      exact op_ld_el (.tmp 1) rfl rfl _ (eval_tmp ((hold 1 (slots_not (by kernel_rfl))).trans h1)) hS.1 hK
    · obtain rfl := Option.some.inj ho
      refine ⟨rfl, fun a w' hS hold hin K hK => ?_⟩
      obtain ⟨y1, x1, rfl⟩ := hin 1 rfl (by omega) rfl
      obtain ⟨y4, x4, (v4 : IsEl ((n * n) * x) y4)⟩ := hin 4 rfl (by omega) rfl
      obtain ⟨y5, x5, (v5 : IsEl (n * n) y5)⟩ := hin 5 rfl (by omega) rfl
      refine if_always rfl ?_
      exact op_fn3 _ _ _ _ _ _ _ _ rfl rfl (eval_tmp x1) (eval_tmp x4) (eval_tmp x5) (by intro args w; kernel_rfl) (pick_el (decide (b % 2 = 1)) v4 v5 _) hK
  · intro i o sz hi ho hA; cases hA
  · intro t1 w2 hs hold hout _ _ hS
    obtain ⟨_, h12, u0, u1, u2, u3, u4, rfl, HU⟩ : ∃ x', t1[12]? = some x' ∧ IsEl (selF (decide (b % 2 = 1)) (n * n * x) (n * n)) x' := hout 6 (by omega) rfl
    replace h1 := (hold 1 (slots_not (by kernel_rfl))).trans h1
    obtain ⟨_, _, _, _, _, tz, RZ, _⟩ := hS.1.open
    have EF := ElAt.mk (row_put (cs' := #[.int .u64 u0, .int .u64 u1, .int .u64 u2, .int .u64 u3, .int .u64 u4]) RZ) HU
    have BF := below_setRow hS.2.2 (Nat.le_refl _) #[.int .u64 u0, .int .u64 u1, .int .u64 u2, .int .u64 u3, .int .u64 u4]
    clear hold hout hS
    simp only [List.drop_succ_cons, List.drop_zero]
    refine st_row rfl 26 (.tmp 1) (.tmp 12) rfl _ _ (eval_tmp h1) (eval_tmp h12) _ _ RZ 5 tElem (by rfl) (by rfl) (ev_one ..) ?_
    refine wpList_nil ?_
    go_wp2_with fail
    go_returns
    exact ⟨rfl, EF, BF⟩

set_option maxHeartbeats 1000000 in
set_option maxRecDepth 100000 in
theorem power_any (x0 x1 x2 x3 x4 : Int) (n : F) (V : Nat) (w : World) (h : El x0 x1 x2 x3 x4 n) (hV : V < 2 ^ 256) :
    Calls Try.prog 34 #[ev x0 x1 x2 x3 x4, .agg (vals (bytesN V))] w (ElemOut (n ^ V) w) := by
  have HV := Lib.hid hV
  clear hV
  have hmf : ∀ (fn : Fn) (first cap : Array Value) (w : World), (Instr.makeFunc fn first cap).run Try.prog w = .ok (.func fn first cap) w := fun _ _ _ _ => rfl
  have R0 := new3_0 w (.cells #[.int .u64 x0, .int .u64 x1, .int .u64 x2, .int .u64 x3, .int .u64 x4] 26) (.cells (vals (bytesN V)) 22) (.cells #[.int .u64 0, .int .u64 0, .int .u64 0, .int .u64 0, .int .u64 0] 26)
  have R1 := new3_1 w (.cells #[.int .u64 x0, .int .u64 x1, .int .u64 x2, .int .u64 x3, .int .u64 x4] 26) (.cells (vals (bytesN V)) 22) (.cells #[.int .u64 0, .int .u64 0, .int .u64 0, .int .u64 0, .int .u64 0] 26)
  have R2 := new3_2 w (.cells #[.int .u64 x0, .int .u64 x1, .int .u64 x2, .int .u64 x3, .int .u64 x4] 26) (.cells (vals (bytesN V)) 22) (.cells #[.int .u64 0, .int .u64 0, .int .u64 0, .int .u64 0, .int .u64 0] 26)
  have B0 : Below w.heap.size w (((w.alloc (.cells #[.int .u64 x0, .int .u64 x1, .int .u64 x2, .int .u64 x3, .int .u64 x4] 26)).alloc (.cells (vals (bytesN V)) 22)).alloc (.cells #[.int .u64 0, .int .u64 0, .int .u64 0, .int .u64 0, .int .u64 0] 26)) := by go_grown
  have EX := ElAt.mk R0 h
  clear R0 h
  go_enter Try.func34, Try.ntmps34
  go_wp2_with fail
  generalize ((w.alloc (.cells #[.int .u64 x0, .int .u64 x1, .int .u64 x2, .int .u64 x3, .int .u64 x4] 26)).alloc (.cells (vals (bytesN V)) 22)).alloc (.cells #[.int .u64 0, .int .u64 0, .int .u64 0, .int .u64 0, .int .u64 0] 26) = W at *
  refine (small_lit 1 _ (by omega)).mono ?_
  rintro e w1 ⟨a0, a1, a2, a3, a4, rfl, HA, b1⟩
  replace EX := EX.keep b1
  replace R1 := row_call b1 R1
  replace R2 := row_call b1 R2
  have B1 := below_call b1 B0
  have HL := row_lt R2
  clear b1 B0 W
  go_wp2_with fail
  have EA := ElAt.mk (row_new (w := w1) (x := .cells #[.int .u64 a0, .int .u64 a1, .int .u64 a2, .int .u64 a3, .int .u64 a4] 26)) HA
  replace EX := EX.keep ((Below.refl _ _).alloc (Nat.le_refl _) (.cells #[.int .u64 a0, .int .u64 a1, .int .u64 a2, .int .u64 a3, .int .u64 a4] 26))
  replace R1 := row_alloc (x := .cells #[.int .u64 a0, .int .u64 a1, .int .u64 a2, .int .u64 a3, .int .u64 a4] 26) R1
  replace R2 := row_alloc (x := .cells #[.int .u64 a0, .int .u64 a1, .int .u64 a2, .int .u64 a3, .int .u64 a4] 26) R2
  have B2 := B1.alloc B1.size (.cells #[.int .u64 a0, .int .u64 a1, .int .u64 a2, .int .u64 a3, .int .u64 a4] 26)
  generalize w1.alloc (.cells #[.int .u64 a0, .int .u64 a1, .int .u64 a2, .int .u64 a3, .int .u64 a4] 26) = W at *
  clear B1 HA
  generalize w1.heap.size = g at *
  clear w1
  go_loopw [7] (fun i wr => ∃ k : Nat, k ≤ 256 ∧ i = .int .i64 ((k : Int) - 1) ∧ ElAt n w.heap.size wr ∧ ElAt (n ^ (V / 2 ^ k)) g wr ∧ wr.heap[w.heap.size + 1]? = some (.cells (vals (bytesN V)) 22 (0, 0)) ∧ wr.heap[w.heap.size + 1 + 1]? = some (.cells #[.int .u64 0, .int .u64 0, .int .u64 0, .int .u64 0, .int .u64 0] 26 (0, 0)) ∧ Below w.heap.size w wr) (fun i _ => (intOf i + 1).toNat)
  case atStart => exact ⟨256, by omega, rfl, EX, by rw [pow_top _ _ HV.out]; exact EA, R1, R2, B2⟩
  case round =>
    obtain ⟨k, hk, rfl, QX, QO, QB, QZ, BK⟩ := hrel
    clear EX EA R1 R2 B2
    cases k with
    | zero =>
      replace QO : ElAt (n ^ V) g wr := by simpa using QO
      obtain ⟨o0, o1, o2, o3, o4, tO, RO, HO⟩ := QO.open
      go_wp2_with (first | (refine ld_row rfl 26 (.tmp 5) rfl _ (by rfl) _ _ RO 5 tElem (by rfl) ?_) | (refine st_row rfl 26 (.tmp 4) _ rfl _ _ (by rfl) (by rfl) _ _ QZ 5 tElem (by rfl) (by rfl) (ev_one ..) ?_))
      refine ret_row rfl _ _ _ rfl (row_put QZ) 5 tElem (by rfl) rfl ?_
      exact ⟨_, _, _, _, _, rfl, HO, below_setRow BK (by omega) _⟩
    | succ j =>
      rw [show ((j + 1 : Nat) : Int) - 1 = (j : Int) by omega]
      have cb : wr.cell? ⟨w.heap.size + 1, j / 8, none⟩ = some (.int .u8 (byteOf V (j / 8))) := (row_cell QB _).trans (by rw [vals_get (by rw [bytesN_len]; omega), nth_bytesN _ _ (by omega)])
      have HB := Lib.hid QB
      have HZ := Lib.hid QZ
      clear QB QZ
      have t8 : ((j : Int)).tmod 8 = (j : Int) % 8 := Int.tmod_eq_emod_of_nonneg (by omega)
      have hby := byteOf_lt V (j / 8)
      go_wp2_with fail
      have hbit : IntKind.u64.wrap (bits .and .u8 ((byteOf V (j / 8) : Int) / 2 ^ (j % 8)) 1) = ((V / 2 ^ j % 2 : Nat) : Int) := by
        have h1 : ((byteOf V (j / 8) : Nat) : Int) / 2 ^ (j % 8) = ((byteOf V (j / 8) / 2 ^ (j % 8) : Nat) : Int) := by push_cast; rfl
        have h2 : byteOf V (j / 8) / 2 ^ (j % 8) < 256 := Nat.lt_of_le_of_lt (Nat.div_le_self _ _) hby
        have h3 := nat_bit V j
        rw [h1, ← h3]
        generalize byteOf V (j / 8) / 2 ^ (j % 8) = q at *
        rw [and_one8 (q : Int) (by omega) (by omega), wrap_small ((q : Int) % 2) (by omega) (by omega)]
        omega
      rw [hbit]
      refine (take_any _ g w.heap.size _ n wr (by omega) QO QX (by omega)).mono ?_
      rintro e w2 ⟨rfl, QO2, b2⟩
      have hstep : stepF (decide (((V / 2 ^ j % 2 : Nat) : Int) % 2 = 1)) (n ^ (V / 2 ^ (j + 1))) n = n ^ (V / 2 ^ j) := by
        rw [pow_bit n V j]
        have h4 : decide (((V / 2 ^ j % 2 : Nat) : Int) % 2 = 1) = decide (V / 2 ^ j % 2 = 1) := decide_eq_decide.2 (by omega)
        rw [h4]
        by_cases h5 : V / 2 ^ j % 2 = 1 <;> simp [stepF, selF, h5]
      rw [hstep] at QO2
      have QX2 := QX.under b2 (by omega)
      have QB2 := (b2.block _ (by omega)).trans HB.out
      have QZ2 := (b2.block _ (by omega)).trans HZ.out
      have BK2 := BK.trans (b2.mono (by omega))
      clear hbit hstep cb b2 QO QX BK
      go_wp2
      go_roundw
      case rel => exact ⟨j, by omega, rfl, QX2, QO2, QB2, QZ2, BK2⟩
      case measure => simp [intOf]

set_option maxHeartbeats 1000000 in
set_option maxRecDepth 100000 in
theorem invert_any (x0 x1 x2 x3 x4 : Int) (n : F) (w : World) (h : El x0 x1 x2 x3 x4 n) :
    Calls Try.prog 36 #[ev x0 x1 x2 x3 x4] w (ElemOut (inv n) w) := by
  have R0 := new2_0 w (.cells #[.int .u64 x0, .int .u64 x1, .int .u64 x2, .int .u64 x3, .int .u64 x4] 26) (.cells #[.int .u64 0, .int .u64 0, .int .u64 0, .int .u64 0, .int .u64 0] 26)
  have R1 := new2_1 w (.cells #[.int .u64 x0, .int .u64 x1, .int .u64 x2, .int .u64 x3, .int .u64 x4] 26) (.cells #[.int .u64 0, .int .u64 0, .int .u64 0, .int .u64 0, .int .u64 0] 26)
  have B0 : Below w.heap.size w ((w.alloc (.cells #[.int .u64 x0, .int .u64 x1, .int .u64 x2, .int .u64 x3, .int .u64 x4] 26)).alloc (.cells #[.int .u64 0, .int .u64 0, .int .u64 0, .int .u64 0, .int .u64 0] 26)) := by go_grown
  go_enter Try.func36, Try.ntmps36
  go_wp2_with fail
  generalize (w.alloc (.cells #[.int .u64 x0, .int .u64 x1, .int .u64 x2, .int .u64 x3, .int .u64 x4] 26)).alloc (.cells #[.int .u64 0, .int .u64 0, .int .u64 0, .int .u64 0, .int .u64 0] 26) = W at *
  refine (small_lit 2 _ (by omega)).mono ?_
  rintro e w1 ⟨a0, a1, a2, a3, a4, rfl, HA, b1⟩
  go_wp2_with fail
  refine (neg_any _ _ _ _ _ _ _ HA).mono ?_
  rintro e w2 ⟨c0, c1, c2, c3, c4, rfl, HC, b2⟩
  go_wp2_with fail
  refine (bytes_val _ _ _ _ _ _ _ (P - 2) HC (by decide)).mono ?_
  rintro e w3 ⟨rfl, b3⟩
  replace R0 := row_call b3 (row_call b2 (row_call b1 R0))
  replace R1 := row_call b3 (row_call b2 (row_call b1 R1))
  have B3 := below_call b3 (below_call b2 (below_call b1 B0))
  clear b1 b2 b3 B0 HA HC W
  have HL := row_lt R1
  replace R0 := row_alloc (x := .cells (vals (bytesN (P - 2))) 22) R0
  replace R1 := row_alloc (x := .cells (vals (bytesN (P - 2))) 22) R1
  have R2 := row_new (w := w3) (x := .cells (vals (bytesN (P - 2))) 22)
  have B4 := B3.alloc B3.size (.cells (vals (bytesN (P - 2))) 22)
  have HB := Lib.hid (show (vals (bytesN (P - 2))).size = 32 by rw [vals_size, bytesN_len])
  have HO := Lib.hid (vals_one (bytesN (P - 2)))
  have HP : P - 2 < 2 ^ 256 := by decide
  have hinv : inv n = n ^ (P - 2) := rfl
  have HI := Lib.hid hinv
  clear hinv
  generalize P - 2 = V at *
  go_wp2_with (first | (refine st_new rfl 22 (.tmp 3) _ rfl _ _ _ (by rfl) (by rfl) 32 tBytes HB.out (by rfl) HO.out ?_; generalize w3.alloc (.cells (vals (bytesN V)) 22) = W at *; generalize w3.heap.size = g at *) | (refine ld_row rfl 26 (.tmp 1) rfl _ (by rfl) _ _ R0 5 tElem (by rfl) ?_) | (refine ld_row rfl 22 (.tmp 3) rfl _ (by rfl) _ _ R2 32 tBytes HB.out ?_))
  refine (power_any _ _ _ _ _ _ _ _ h HP).mono ?_
  rintro e w4 ⟨o0, o1, o2, o3, o4, rfl, HO', b4⟩
  replace R1 := row_call b4 R1
  have B5 := below_call b4 B4
  clear b4 B4 R0 R2
  go_wp2_with (refine st_row rfl 26 (.tmp 2) _ rfl _ _ (by rfl) (by rfl) _ _ R1 5 tElem (by rfl) (by rfl) (ev_one ..) ?_)
  refine ret_row rfl _ _ _ rfl (row_put R1) 5 tElem (by rfl) rfl ?_
  rw [← HI.out] at HO'
  exact ⟨_, _, _, _, _, rfl, HO', below_setRow B5 (by omega) _⟩

theorem inv_el {x : Value} {n : F} (hx : IsEl n x) (w : World) : Calls Try.prog 36 #[x] w (Gives (IsEl (inv n)) w) := by
  obtain ⟨_, _, _, _, _, rfl, h1⟩ := hx
  exact (invert_any _ _ _ _ _ _ w h1).mono fun _ _ ⟨z0, z1, z2, z3, z4, e1, e2, e3⟩ => ⟨_, e1, ⟨z0, z1, z2, z3, z4, rfl, e2⟩, e3⟩
theorem inv_ev {x : Value} {n m : F} (hx : IsEl n x) (h : m = inv n) (w : World) : Calls Try.prog 36 #[x] w (Gives (IsEl m) w) := by
  rw [h]; exact inv_el hx w
theorem power_el {x : Value} {n : F} (hx : IsEl n x) (V : Nat) (hV : V < 2 ^ 256) (w : World) : Calls Try.prog 34 #[x, .agg (vals (bytesN V))] w (Gives (IsEl (n ^ V)) w) := by
  obtain ⟨_, _, _, _, _, rfl, h1⟩ := hx
  exact (power_any _ _ _ _ _ _ V w h1 hV).mono fun _ _ ⟨z0, z1, z2, z3, z4, e1, e2, e3⟩ => ⟨_, e1, ⟨z0, z1, z2, z3, z4, rfl, e2⟩, e3⟩
theorem power_ev {x : Value} {n m : F} (hx : IsEl n x) (V : Nat) (hV : V < 2 ^ 256) (h : m = n ^ V) (w : World) : Calls Try.prog 34 #[x, .agg (vals (bytesN V))] w (Gives (IsEl m) w) := by
  rw [h]; exact power_el hx V hV w
end Go.Proofs.Ytciakfhjjnmeeaa

namespace Go.Proofs.Ytciakfhjjnmeeaa
open Go.RowKit Nt

theorem awake_ev (w : World) : Calls Try.prog 24 #[] w (Gives (· = .bool true) w) := (awake_any w).mono fun _ _ ⟨e1, e2⟩ => ⟨_, e1, rfl, e2⟩
theorem prime_ev (k : Int) (h0 : 0 ≤ k) (h1 : k ≤ 237) (w : World) : Calls Try.prog 41 #[.int .u8 k] w (Gives (· = .agg (vals (pb k))) w) :=
  (prime_any k w h0 h1).mono fun _ _ ⟨e1, e2⟩ => ⟨_, e1, rfl, e2⟩
theorem bytes_ev {x : Value} {n : F} (hx : IsEl n x) (V : Nat) (hV : n.val = V) (w : World) : Calls Try.prog 20 #[x] w (Gives (· = .agg (vals (bytesN V))) w) := by
  subst hV; exact bytes_el hx w
set_option maxRecDepth 100000 in
/-- '==' of two rows of 32 bytes. -/
theorem eql_by {p q : Operand} (xs ys : List Int) (hx : xs.length = 32) (hy : ys.length = 32) (w : World) :
    (do eqGuard .eql 22 p q (.agg (vals xs)) (.agg (vals ys)); binOp .eql 22 (.agg (vals xs)) (.agg (vals ys)) : Sem Value).run Try.prog w = .ok (.bool (decide (xs = ys))) w := by
  have h1 : (eqGuard .eql 22 p q (.agg (vals xs)) (.agg (vals ys))).run Try.prog w = .ok () w := by kernel_rfl
  have h2 := run_eql_vals (P := Try.prog) w .u8 22 5 32 Try.underlying22 Try.underlying5 (fun w => by kernel_rfl) xs ys hx hy
  rw [Sem.run_bind, h1]
  exact h2
theorem eql_by_same {p q : Operand} (xs : List Int) (hx : xs.length = 32) (w : World) :
    (do eqGuard .eql 22 p q (.agg (vals xs)) (.agg (vals xs)); binOp .eql 22 (.agg (vals xs)) (.agg (vals xs)) : Sem Value).run Try.prog w = .ok (.bool true) w := by
  rw [eql_by xs xs hx hx w, decide_eq_true rfl]
theorem neq_bool {p q : Operand} (a b : Bool) (w : World) : (do eqGuard .neq 4 p q (.bool a) (.bool b); binOp .neq 4 (.bool a) (.bool b) : Sem Value).run Try.prog w = .ok (.bool (a != b)) w := by
  cases a <;> cases b <;> kernel_rfl
/-- Two Elems. -/
def IsEl2 (n m : F) (x : Value) : Prop := ∃ u v, x = .tuple #[u, v] ∧ IsEl n u ∧ IsEl m v
section
variable {o : Oper} {a : Act} {w : World} {Q : Exit → Act → World → Prop} {d : Nat} {K : Act → World → Prop} {n m : F}
theorem op_ext0 (x : Operand) {u : Value} (ho : o.op = .extract x 0) (hd : o.dst = some d) (hx : a.eval x = u) (hu : IsEl2 n m u)
    (hK : ∀ x w', IsEl n x → Below w.heap.size w w' → K (a.put (some d) x) w') : o.wp Try.prog a w K Q := by
  obtain ⟨u0, v0, rfl, h1, h2⟩ := hu
  refine op_val (V := IsEl n) u0 hd ?_ h1 hK
  unfold execOp; rw [ho]
  show ((do let z ← Instr.extract (a.eval x) 0; pure (Next.value z)) : Sem Next).run Try.prog w = _
  rw [hx]; rfl
theorem op_ext1 (x : Operand) {u : Value} (ho : o.op = .extract x 1) (hd : o.dst = some d) (hx : a.eval x = u) (hu : IsEl2 n m u)
    (hK : ∀ x w', IsEl m x → Below w.heap.size w w' → K (a.put (some d) x) w') : o.wp Try.prog a w K Q := by
  obtain ⟨u0, v0, rfl, h1, h2⟩ := hu
  refine op_val (V := IsEl m) v0 hd ?_ h2 hK
  unfold execOp; rw [ho]
  show ((do let z ← Instr.extract (a.eval x) 1; pure (Next.value z)) : Sem Next).run Try.prog w = _
  rw [hx]; rfl
theorem swap_ev {x y : Value} (b : Bool) {v : Int} (h : (0 ≤ v ∧ v < 18446744073709551616) ∧ decide (v % 2 = 1) = b) (hx : IsEl n x) (hy : IsEl m y) (w : World) : Calls Try.prog 38 #[.int .u64 v, x, y] w (Gives (IsEl2 (selF b m n) (selF b n m)) w) := by
  obtain ⟨_, _, _, _, _, rfl, h1⟩ := hx; obtain ⟨_, _, _, _, _, rfl, h2⟩ := hy
  exact (swap_any b v _ _ _ _ _ _ _ _ _ _ n m w h.1 h.2 h1 h2).mono fun _ _ ⟨z0, z1, z2, z3, z4, u0, u1, u2, u3, u4, e1, e2, e3, e4⟩ => ⟨_, e1, ⟨_, _, rfl, ⟨z0, z1, z2, z3, z4, rfl, e2⟩, ⟨u0, u1, u2, u3, u4, rfl, e3⟩⟩, e4⟩
theorem pick_ev {x y : Value} (b : Bool) {v : Int} (h : (0 ≤ v ∧ v < 18446744073709551616) ∧ decide (v % 2 = 1) = b) (hx : IsEl n x) (hy : IsEl m y) (w : World) : Calls Try.prog 39 #[.int .u64 v, x, y] w (Gives (IsEl (selF b n m)) w) := by
  obtain ⟨_, _, _, _, _, rfl, h1⟩ := hx; obtain ⟨_, _, _, _, _, rfl, h2⟩ := hy
  exact (pick_any b v _ _ _ _ _ _ _ _ _ _ n m w h.1 h.2 h1 h2).mono fun _ _ ⟨z0, z1, z2, z3, z4, e1, e2, e3⟩ => ⟨_, e1, ⟨z0, z1, z2, z3, z4, rfl, e2⟩, e3⟩
theorem times_ev {x : Value} {k : Int} {m' : F} (hk : 0 ≤ k ∧ k < 4294967296) (hm : n * Fin.ofNat P k.toNat = m') (hx : IsEl n x) (w : World) : Calls Try.prog 40 #[x, .int .u32 k] w (Gives (IsEl m') w) := by
  subst hm
  obtain ⟨_, _, _, _, _, rfl, h1⟩ := hx
  exact (times_any k _ _ _ _ _ n w hk h1).mono fun _ _ ⟨z0, z1, z2, z3, z4, e1, e2, e3⟩ => ⟨_, e1, ⟨z0, z1, z2, z3, z4, rfl, e2⟩, e3⟩
end
end Go.Proofs.Ytciakfhjjnmeeaa

namespace Go.Proofs.Ytciakfhjjnmeeaa
open Go.RowKit
variable {P : Program}

/-- What holds while the head runs, the store N of j's value into p's row in it. -/
def HS1 (N : Nat) (p j : Nat) (D : Nat → Nat) (A : Nat → Option Nat) (V : Nat → Value → Prop) (S : World → Prop) (B : Nat) (t0 : Array Value) (df : List Deferred) (f : Nat → Bool) (a : Act) (w : World) : Prop :=
  ∃ v : Nat → Value, a = ⟨fillA D f v N t0, df⟩ ∧ S w ∧ (∀ i, i < N → f i = true → A i = none → V i (v i)) ∧ (∀ i, i < N → f i = true → ∀ sz, A i = some sz → OwnRow B sz w (v i)) ∧
    (∀ i j, i < N → j < N → i ≠ j → f i = true → f j = true → (A i).isSome = true → (A j).isSome = true → v i ≠ v j) ∧
    (f N = true → f p = true ∧ f j = true ∧ ∃ g t cs, v p = .pointer (some ⟨g, 0, none⟩) ∧ v j = .agg cs ∧ w.heap[g]? = some (.cells cs t (0, 0)))

theorem wp_region_st1 {id : Nat} {Q : Exit → Act → World → Prop} {w : World} {l : List Oper} {t0 : Array Value} {df : List Deferred} (N : Nat) (p j : Nat) (D : Nat → Nat) (A : Nat → Option Nat) (V : Nat → Value → Prop) (S : World → Prop) (B sz : Nat) (ty : TypeId)
    (hm : P.follows .mixedOrders = true) (hB : headB l.toArray (N + 1) = true) (hD : ∀ i j, i < N → j < N → j ≠ i → D j ≠ D i) (hDs : ∀ i, i < N → D i < t0.size) (h0 : S w.drew) (hSB : ∀ w, S w → B ≤ w.heap.size)
    (hSb : ∀ w w', S w → Below w.heap.size w w' → S w') (hSr : ∀ w g cs, S w → B ≤ g → S (w.setRow g cs))
    (hp : p < N) (hj : j < N) (hAp : A p = some sz) (hAj : A j = none) (hT : RowT P ty sz) (hVj : ∀ x, V j x → ∃ cs, x = .agg cs ∧ cs.size = sz ∧ cs.all (·.oneCell') = true)
    (hst : ∀ o, l[N]? = some o → o.dst = none ∧ o.guard = none ∧ o.op = .store ty (.tmp (D p)) (.tmp (D j)) ∧ depB o p = true ∧ depB o j = true)
    (hval : ∀ i o, i < N → l[i]? = some o → A i = none → o.dst = some (D i) ∧ ∀ (a : Act) (w : World), S w → (∀ k, (∀ j, j < N → D j ≠ k) → a.tmps[k]? = t0[k]?) →
      (∀ j, depB o j = true → j < N → A j = none → ∃ x, a.tmps[D j]? = some x ∧ V j x) → ∀ K : Act → World → Prop, (∀ x w', V i x → Below w.heap.size w w' → K (a.put (some (D i)) x) w') →
        if Region.wanted o (yielded l.toArray a.tmps) = true then o.wp P a w K Q else K (a.put (some (D i)) undef) w)
    (hall : ∀ i o sz, i < N → l[i]? = some o → A i = some sz → o.dst = some (D i) ∧ o.guard = none ∧ ∃ (t : TypeId) (cs : Array Value), cs.size = sz ∧ ∀ (a : Act) (w : World) (K : Act → World → Prop),
      K (a.put (some (D i)) (.pointer (some ⟨w.heap.size, 0, none⟩))) (w.alloc (.cells cs t)) → o.wp P a w K Q)
    (tail : ∀ (t : Array Value) (w : World), t.size = t0.size → (∀ k, (∀ j, j < N → D j ≠ k) → t[k]? = t0[k]?) → (∀ j, j < N → A j = none → ∃ x, t[D j]? = some x ∧ V j x) →
      (∀ j, j < N → ∀ sz, A j = some sz → ∃ g, t[D j]? = some (.pointer (some ⟨g, 0, none⟩)) ∧ B ≤ g ∧ ∃ ty cs, w.heap[g]? = some (.cells cs ty (0, 0)) ∧ cs.size = sz) →
      (∀ i j, i < N → j < N → i ≠ j → (A i).isSome = true → (A j).isSome = true → t[D i]? ≠ t[D j]?) →
      (∃ g t' cs, t[D p]? = some (.pointer (some ⟨g, 0, none⟩)) ∧ t[D j]? = some (.agg cs) ∧ w.heap[g]? = some (.cells cs t' (0, 0))) → S w → wpList P l.toArray Q (l.drop (N + 1)) ⟨t, df⟩ w) :
    (Code.region id l.toArray true).wp P Q ⟨t0, df⟩ w := by
  refine wp_region_inv (N + 1) hm hB (HS1 N p j D A V S B t0 df) ⟨fun _ => undef, by rw [fillA_none], h0, (fun _ _ h => by cases h), (fun _ _ h => by cases h), (fun _ _ _ _ _ h => by cases h), (fun h => by cases h)⟩ ?_ ?_
  · rintro f a w i o hi ho hfi hdep ⟨v, rfl, hS, hV, hA, hne, hStd⟩ K hK
    have hgetv : ∀ q, q < N → f q = true → (fillA D f v N t0)[D q]? = some (v q) := fun q hq hf => fillA_get D f v q N t0 hq hf (hDs _ hq) (fun k hk hne => hD q k hq hk hne)
    by_cases hiN : i = N
    · subst hiN
      obtain ⟨o1, o2, o3, o4, o5⟩ := hst o ho
      have hfp : f p = true := by obtain ⟨e, he, hb, hn⟩ := depB_mem o4; rw [← hn]; exact hdep e he hb
      have hfj : f j = true := by obtain ⟨e, he, hb, hn⟩ := depB_mem o5; rw [← hn]; exact hdep e he hb
      obtain ⟨g, t', old, hvp, hBg, hrow, hold⟩ := hA p hp hfp sz hAp
      obtain ⟨cs, hvj, hcs, hone⟩ := hVj _ (hV j hj hfj hAj)
      rw [if_pos (by simp [Region.wanted, o2])]
      refine wp_st_row ty _ _ o3 g cs (eval_tmp (by rw [hgetv p hp hfp, hvp])) (eval_tmp (by rw [hgetv j hj hfj, hvj])) t' old hrow sz hT hcs hold hone ?_
      rw [o1]
      have hsame : fillA D (upF f i) v i t0 = fillA D f v i t0 := fillA_congr D _ _ v i t0 (fun q hq => by simp only [upF]; rw [if_neg (by omega)])
      refine hK _ _ ⟨v, by rw [hsame]; rfl, hSr _ _ _ hS hBg, ?_, ?_, ?_, fun _ => ⟨?_, ?_, g, t', cs, hvp, hvj, row_put hrow⟩⟩
      · intro q hq hf hn; exact hV q hq (by simpa [upF, Nat.ne_of_lt hq] using hf) hn
      · intro q hq hf s hs
        obtain ⟨g', t'', cs', e1, e2, e3, e4⟩ := hA q hq (by simpa [upF, Nat.ne_of_lt hq] using hf) s hs
        by_cases eg : g' = g
        · subst eg
          rw [hrow] at e3
          injection e3 with e3; injection e3 with e3a e3b
          exact ⟨g', t', cs, e1, e2, row_put hrow, by rw [hcs, ← hold, e3a, e4]⟩
        · exact ⟨g', t'', cs', e1, e2, row_put_other e3 eg, e4⟩
      · intro q r hq hr hqr h1 h2; exact hne q r hq hr hqr (by simpa [upF, Nat.ne_of_lt hq] using h1) (by simpa [upF, Nat.ne_of_lt hr] using h2)
      · simp [upF, hfp]
      · simp [upF, hfj]
    · have hi' : i < N := by omega
      have hput : ∀ x, (Act.put ⟨fillA D f v N t0, df⟩ (some (D i)) x) = ⟨fillA D (upF f i) (upV v i x) N t0, df⟩ := by
        intro x
        show (⟨(fillA D f v N t0).setIfInBounds (D i) x, df⟩ : Act) = _
        rw [fillA_put D f v i x N t0 hi' hfi (fun j hj hne => hD i j hi' hj hne)]
      have hup : ∀ q, q ≠ i → ∀ x, upF f i q = f q ∧ upV v i x q = v q := fun q hq x => ⟨by simp only [upF]; rw [if_neg hq], by simp only [upV]; rw [if_neg hq]⟩
      have hself : ∀ x, upV v i x i = x := fun x => by simp [upV]
      have hstk : ∀ x w', Below w.heap.size w w' → (upF f i N = true → upF f i p = true ∧ upF f i j = true ∧ ∃ g t cs, upV v i x p = .pointer (some ⟨g, 0, none⟩) ∧ upV v i x j = .agg cs ∧ w'.heap[g]? = some (.cells cs t (0, 0))) := by
        intro x w' hb hN
        rw [(hup N (by omega) x).1] at hN
        obtain ⟨h1, h2, g, t, cs, h3, h4, h5⟩ := hStd hN
        have np : p ≠ i := fun e => by subst e; rw [hfi] at h1; cases h1
        have nj : j ≠ i := fun e => by subst e; rw [hfi] at h2; cases h2
        exact ⟨by rw [(hup p np x).1]; exact h1, by rw [(hup j nj x).1]; exact h2, g, t, cs, by rw [(hup p np x).2]; exact h3, by rw [(hup j nj x).2]; exact h4, row_call hb h5⟩
      cases hAi : A i with
      | none =>
        obtain ⟨h1, h3⟩ := hval i o hi' ho hAi
        rw [h1]
        refine h3 _ w hS (fun k hk => fillA_other D f v k N t0 hk) (fun q hq hqn hAq => ?_) K (fun x w' hx hb => ?_)
        · obtain ⟨e, he, hbn, rfl⟩ := depB_mem hq
          have hfq := hdep e he hbn
          exact ⟨v e.on, hgetv _ hqn hfq, hV _ hqn hfq hAq⟩
        · rw [hput x]
          refine hK _ _ ⟨_, rfl, hSb _ _ hS hb, ?_, ?_, ?_, hstk x w' hb⟩
          · intro q hq hf hn
            by_cases e : q = i
            · subst e; rw [hself]; exact hx
            · obtain ⟨e1, e2⟩ := hup q e x
              rw [e1] at hf; rw [e2]; exact hV q hq hf hn
          · intro q hq hf s hs
            have e : q ≠ i := fun e => by subst e; rw [hAi] at hs; cases hs
            obtain ⟨e1, e2⟩ := hup q e x
            rw [e1] at hf; rw [e2]; exact (hA q hq hf s hs).keep hb
          · intro q k hq hk hqk hfq hfk hsq hsk
            have e : q ≠ i := fun e => by subst e; rw [hAi] at hsq; cases hsq
            have e' : k ≠ i := fun e => by subst e; rw [hAi] at hsk; cases hsk
            obtain ⟨e1, e2⟩ := hup q e x
            obtain ⟨e3, e4⟩ := hup k e' x
            rw [e1] at hfq; rw [e3] at hfk; rw [e2, e4]
            exact hne q k hq hk hqk hfq hfk hsq hsk
      | some s =>
        obtain ⟨h1, h2, t, cs, hcs, h3⟩ := hall i o s hi' ho hAi
        rw [if_pos (by simp [Region.wanted, h2])]
        refine h3 _ w K ?_
        rw [hput]
        have hBw := hSB w hS
        have hbel : Below w.heap.size w (w.alloc (.cells cs t)) := (Below.refl _ _).alloc (Nat.le_refl _) _
        have hold : ∀ q, q < N → f q = true → (A q).isSome = true → v q ≠ .pointer (some ⟨w.heap.size, 0, none⟩) := by
          intro q hq hf hs he
          obtain ⟨s', hs'⟩ := Option.isSome_iff_exists.1 hs
          obtain ⟨g, t', cs', hv, _, hr, _⟩ := hA q hq hf s' hs'
          rw [hv] at he
          have hg : g = w.heap.size := by injection he with he; injection he with he; injection he
          have := row_lt hr
          omega
        refine hK _ _ ⟨_, rfl, hSb _ _ hS hbel, ?_, ?_, ?_, hstk _ _ hbel⟩
        · intro q hq hf hn
          have e : q ≠ i := fun e => by subst e; rw [hAi] at hn; cases hn
          obtain ⟨e1, e2⟩ := hup q e (.pointer (some ⟨w.heap.size, 0, none⟩))
          rw [e1] at hf; rw [e2]; exact hV q hq hf hn
        · intro q hq hf s' hs
          by_cases e : q = i
          · subst e
            rw [hself]
            rw [hAi] at hs
            obtain rfl := Option.some.inj hs
            exact ⟨w.heap.size, t, cs, rfl, hBw, row_new, hcs⟩
          · obtain ⟨e1, e2⟩ := hup q e (.pointer (some ⟨w.heap.size, 0, none⟩))
            rw [e1] at hf; rw [e2]; exact (hA q hq hf s' hs).keep hbel
        · intro q k hq hk hqk hfq hfk hsq hsk
          by_cases eq : q = i
          · subst eq
            have ek : k ≠ q := fun h => hqk h.symm
            obtain ⟨e3, e4⟩ := hup k ek (.pointer (some ⟨w.heap.size, 0, none⟩))
            rw [e3] at hfk; rw [hself, e4]
            exact fun h => hold k hk hfk hsk h.symm
          · by_cases ek : k = i
            · subst ek
              obtain ⟨e1, e2⟩ := hup q eq (.pointer (some ⟨w.heap.size, 0, none⟩))
              rw [e1] at hfq; rw [hself, e2]
              exact hold q hq hfq hsq
            · obtain ⟨e1, e2⟩ := hup q eq (.pointer (some ⟨w.heap.size, 0, none⟩))
              obtain ⟨e3, e4⟩ := hup k ek (.pointer (some ⟨w.heap.size, 0, none⟩))
              rw [e1] at hfq; rw [e3] at hfk; rw [e2, e4]
              exact hne q k hq hk hqk hfq hfk hsq hsk
  · rintro f a w hfull ⟨v, rfl, hS, hV, hA, hne, hStd⟩
    have hf : ∀ q, q < N → f q = true := fun q hq => hfull q (by omega)
    rw [fillA_congr D f (fun _ => true) v N t0 hf]
    have hget : ∀ q, q < N → (fillA D (fun _ => true) v N t0)[D q]? = some (v q) := fun q hq => fillA_get D _ v q N t0 hq rfl (hDs _ hq) (fun k hk hne => hD _ k hq hk hne)
    obtain ⟨_, _, g, t', cs, s1, s2, s3⟩ := hStd (hfull N (by omega))
    refine tail _ w (fillA_size D _ v N t0) (fun k hk => fillA_other D _ v k N t0 hk) (fun q hq hAq => ⟨v q, hget q hq, hV q hq (hf q hq) hAq⟩) (fun q hq s hs => ?_) (fun q k hq hk hqk hsq hsk => ?_) ⟨g, t', cs, by rw [hget p hp, s1], by rw [hget j hj, s2], s3⟩ hS
    · obtain ⟨g, t, cs, h1, h2, h3, h4⟩ := hA q hq (hf q hq) s hs
      exact ⟨g, by rw [hget q hq, h1], h2, t, cs, h3, h4⟩
    · rw [hget q hq, hget k hk]
      exact fun h => hne q k hq hk hqk (hf q hq) (hf k hk) hsq hsk (Option.some.inj h)
end Go.Proofs.Ytciakfhjjnmeeaa

namespace Go.Proofs.Ytciakfhjjnmeeaa
open Go.RowKit Nt

/-- At block g lie the words of the list. -/
def WordsAt (l : List Int) (g : Nat) (w : World) : Prop := ∃ t, w.heap[g]? = some (.cells (valsK .u64 l) t (0, 0))
theorem WordsAt.keep {l : List Int} {g : Nat} {w w' : World} (h : WordsAt l g w) (hb : Below w.heap.size w w') : WordsAt l g w' := by
  obtain ⟨t, h1⟩ := h; exact ⟨t, row_call hb h1⟩
theorem WordsAt.lt {l : List Int} {g : Nat} {w : World} (h : WordsAt l g w) : g < w.heap.size := by
  obtain ⟨t, h⟩ := h; exact row_lt h
theorem WordsAt.of_eq {l : List Int} {g : Nat} {w w' : World} (h : WordsAt l g w) (e : w'.heap[g]? = w.heap[g]?) : WordsAt l g w' := by
  obtain ⟨t, h1⟩ := h; exact ⟨t, e.trans h1⟩
theorem WordsAt.under {l : List Int} {g B : Nat} {w w' : World} (h : WordsAt l g w) (hb : Below B w w') (hg : g < B) : WordsAt l g w' := h.of_eq (hb.block g hg)

theorem idx0 (g : Nat) (w : World) : ((do let z ← Instr.indexAt 45 (.slice (some ⟨g, 0, none⟩) 4 4) (.int .i64 0); pure (Next.value z)) : Sem Next).run Try.prog w = .ok (.value (.pointer (some ⟨g, 0, none⟩))) w := by kernel_rfl
theorem idx1 (g : Nat) (w : World) : ((do let z ← Instr.indexAt 45 (.slice (some ⟨g, 0, none⟩) 4 4) (.int .i64 1); pure (Next.value z)) : Sem Next).run Try.prog w = .ok (.value (.pointer (some ⟨g, 1, none⟩))) w := by kernel_rfl
theorem idx2 (g : Nat) (w : World) : ((do let z ← Instr.indexAt 45 (.slice (some ⟨g, 0, none⟩) 4 4) (.int .i64 2); pure (Next.value z)) : Sem Next).run Try.prog w = .ok (.value (.pointer (some ⟨g, 2, none⟩))) w := by kernel_rfl
theorem idx3 (g : Nat) (w : World) : ((do let z ← Instr.indexAt 45 (.slice (some ⟨g, 0, none⟩) 4 4) (.int .i64 3); pure (Next.value z)) : Sem Next).run Try.prog w = .ok (.value (.pointer (some ⟨g, 3, none⟩))) w := by kernel_rfl
theorem idx_run (g k : Nat) (hk : k < 4) (w : World) : ((do let z ← Instr.indexAt 45 (.slice (some ⟨g, 0, none⟩) 4 4) (.int .i64 k); pure (Next.value z)) : Sem Next).run Try.prog w = .ok (.value (.pointer (some ⟨g, k, none⟩))) w := by
  have h : k = 0 ∨ k = 1 ∨ k = 2 ∨ k = 3 := by omega
  rcases h with h | h | h | h
  · subst h; exact idx0 g w
  · subst h; exact idx1 g w
  · subst h; exact idx2 g w
  · subst h; exact idx3 g w

section
variable {o : Oper} {a : Act} {w : World} {Q : Exit → Act → World → Prop} {d : Nat} {K : Act → World → Prop} {l : List Int}
theorem op_word (x : Operand) (ho : o.op = .load 23 x) (hd : o.dst = some d) (g i : Nat) (hx : a.eval x = .pointer (some ⟨g, i, none⟩)) (h : WordsAt l g w) (hi : i < l.length) (v : Int) (hv : nth l i = v)
    (hK : ∀ x w', x = .int .u64 v → Below w.heap.size w w' → K (a.put (some d) x) w') : o.wp Try.prog a w K Q := by
  subst hv
  obtain ⟨t, h1⟩ := h
  have c := (row_cell h1 i).trans (valsK_get hi)
  refine op_val (V := (· = .int .u64 (nth l i))) (.int .u64 (nth l i)) hd ?_ rfl hK
  unfold execOp; rw [ho]
  show ((do let z ← Instr.loadAt 23 (a.eval x); pure (Next.value z)) : Sem Next).run Try.prog w = _
  rw [hx]
  go_simp
theorem op_word4 (x y : Operand) (ho : o.op = .indexAddr 45 x y) (hd : o.dst = some d) (g k : Nat) (hk : k < 4) (hx : a.eval x = .slice (some ⟨g, 0, none⟩) 4 4) (hy : a.eval y = .int .i64 k)
    (hK : ∀ x w', x = .pointer (some ⟨g, k, none⟩) → Below w.heap.size w w' → K (a.put (some d) x) w') : o.wp Try.prog a w K Q := by
  refine op_val (V := (· = .pointer (some ⟨g, k, none⟩))) (.pointer (some ⟨g, k, none⟩)) hd ?_ rfl hK
  unfold execOp; rw [ho]
  show ((do let z ← Instr.indexAt 45 (a.eval x) (a.eval y); pure (Next.value z)) : Sem Next).run Try.prog w = _
  rw [hx, hy]
  exact idx_run g k hk w
theorem rem_two {p q : Operand} (v r : Int) (h0 : 0 ≤ v) (h : v % 2 = r) (w : World) : (do eqGuard .rem 23 p q (.int .u64 v) (.int .u64 2); binOp .rem 23 (.int .u64 v) (.int .u64 2) : Sem Value).run Try.prog w = .ok (.int .u64 r) w := by
  have e : v.tmod 2 = r := by rw [Int.tmod_eq_emod_of_nonneg h0]; exact h
  subst e
  rfl
end
theorem rem_40 {p q : Operand} (m : Nat) (w : World) : (do eqGuard .rem 23 p q (.int .u64 m) (.int .u64 40); binOp .rem 23 (.int .u64 m) (.int .u64 40) : Sem Value).run Try.prog w = .ok (.int .u64 ((m % 40 : Nat) : Int)) w := by
  have e : ((m : Int)).tmod 40 = ((m % 40 : Nat) : Int) := by rw [Int.tmod_eq_emod_of_nonneg (Int.natCast_nonneg _)]; omega
  rw [← e]
  rfl
theorem rem_4294967296 {p q : Operand} (m : Nat) (w : World) : (do eqGuard .rem 23 p q (.int .u64 m) (.int .u64 4294967296); binOp .rem 23 (.int .u64 m) (.int .u64 4294967296) : Sem Value).run Try.prog w = .ok (.int .u64 ((m % 4294967296 : Nat) : Int)) w := by
  have e : ((m : Int)).tmod 4294967296 = ((m % 4294967296 : Nat) : Int) := by rw [Int.tmod_eq_emod_of_nonneg (Int.natCast_nonneg _)]; omega
  rw [← e]
  rfl
theorem conv_u32 (v r : Int) (h : IntKind.u32.wrap v = r) (w : World) : (convert 23 50 (.int .u64 v)).run Try.prog w = .ok (.int .u32 r) w := by
  subst h; kernel_rfl
theorem op_conv {o : Oper} {a : Act} {w : World} {Q : Exit → Act → World → Prop} {d : Nat} {K : Act → World → Prop} (x : Operand) (v r : Int) (ho : o.op = .convert 23 50 x) (hd : o.dst = some d) (hx : a.eval x = .int .u64 v) (h : IntKind.u32.wrap v = r)
    (hK : ∀ x w', x = .int .u32 r → Below w.heap.size w w' → K (a.put (some d) x) w') : o.wp Try.prog a w K Q := by
  refine op_val (V := (· = .int .u32 r)) (.int .u32 r) hd ?_ rfl hK
  unfold execOp; rw [ho]
  show ((do let z ← convert 23 50 (a.eval x); pure (Next.value z)) : Sem Next).run Try.prog w = _
  rw [hx, Sem.run_bind, conv_u32 v r h w]
  rfl
theorem el_row {n : F} {x : Value} (h : IsEl n x) : ∃ cs, x = .agg cs ∧ cs.size = 5 ∧ cs.all (·.oneCell') = true := by
  obtain ⟨z0, z1, z2, z3, z4, rfl, _⟩ := h
  exact ⟨_, rfl, rfl, ev_one ..⟩
theorem ptr_inj {a b : Nat} (h : some (Value.pointer (some ⟨a, 0, none⟩)) = some (Value.pointer (some ⟨b, 0, none⟩))) : a = b := by
  injection h with h; injection h with h; injection h with h; injection h
theorem el_stored {n : F} {x : Value} {cs : Array Value} {g : Nat} {t : TypeId} {w : World} (h : IsEl n x) (e : some x = some (.agg cs)) (hr : w.heap[g]? = some (.cells cs t (0, 0))) : ElAt n g w := by
  injection e with e; subst e
  obtain ⟨cs', e1, e2, _⟩ := el_row h
  injection e1 with e1; subst e1
  exact ⟨_, t, hr, e2, h⟩
theorem if_guard_un {o : Oper} {ops : Array Oper} {t : Array Value} {j d : Nat} {b : Bool} {p q : Prop} (h : o.guard = some (j, b)) (hd : (ops[j]?).bind (·.dst) = some d) (ht : t[d]? = some undef) (hq : q) : if Region.wanted o (yielded ops t) = true then p else q := by
  have hy : yielded ops t j = none := by unfold yielded; rw [hd]; simp [ht, undef]
  rw [if_neg (by simp [Region.wanted, h, hy])]; exact hq
end Go.Proofs.Ytciakfhjjnmeeaa

namespace Go.Proofs.Ytciakfhjjnmeeaa
open Go.RowKit

/-- The call's own rows: block, number of cells, what is held. -/
def Own (b : World) (L : List (Nat × Nat × (Value → Prop))) (w : World) : Prop :=
  Below b.heap.size b w ∧ (L.map (·.1)).Nodup ∧ ∀ r ∈ L, b.heap.size ≤ r.1 ∧ ∃ cs t, w.heap[r.1]? = some (.cells cs t (0, 0)) ∧ cs.size = r.2.1 ∧ r.2.2 (.agg cs)

section
variable {P : Program} {b w w' : World} {L : List (Nat × Nat × (Value → Prop))}
theorem Own.keep (h : Own b L w) (hb : Below w.heap.size w w') : Own b L w' :=
  ⟨below_call hb h.1, h.2.1, fun r hr => ⟨(h.2.2 r hr).1, by obtain ⟨cs, t, h1, h2, h3⟩ := (h.2.2 r hr).2; exact ⟨cs, t, row_call hb h1, h2, h3⟩⟩⟩
theorem Own.drew (h : Own b L w) : Own b L w.drew := ⟨h.1.drew, h.2.1, h.2.2⟩
theorem Own.get (h : Own b L w) {i g n : Nat} {V : Value → Prop} (hi : L[i]? = some (g, n, V)) : ∃ cs t, w.heap[g]? = some (.cells cs t (0, 0)) ∧ cs.size = n ∧ V (.agg cs) := (h.2.2 _ (List.mem_of_getElem? hi)).2
theorem Own.lt (h : Own b L w) : ∀ r ∈ L, r.1 < w.heap.size := fun r hr => by
  obtain ⟨cs, t, h1, _⟩ := (h.2.2 r hr).2
  exact row_lt h1
theorem Own.ge (h : Own b L w) {i g n : Nat} {V : Value → Prop} (hi : L[i]? = some (g, n, V)) : b.heap.size ≤ g := (h.2.2 _ (List.mem_of_getElem? hi)).1
theorem Own.el (h : Own b L w) {i g : Nat} {n : Nt.F} (hi : L[i]? = some (g, 5, IsEl n)) : ElAt n g w := h.get hi
theorem Own.start (b : World) : Own b [] b := ⟨Below.refl _ _, List.nodup_nil, fun r hr => by cases hr⟩
theorem Own.of_below (h : Below b.heap.size b w) : Own b [] w := ⟨h, List.nodup_nil, fun r hr => by cases hr⟩
theorem Own.add (h : Own b L w) {g n : Nat} {V : Value → Prop} (hg : b.heap.size ≤ g) (hne : ∀ r ∈ L, r.1 ≠ g) (hr : ∃ cs t, w.heap[g]? = some (.cells cs t (0, 0)) ∧ cs.size = n ∧ V (.agg cs)) : Own b (L ++ [(g, n, V)]) w := by
  refine ⟨h.1, ?_, fun r hr' => ?_⟩
  · rw [List.map_append]
    refine List.nodup_append.2 ⟨h.2.1, by simp, fun x hx y hy => ?_⟩
    obtain ⟨r, hrL, rfl⟩ := List.mem_map.1 hx
    simp only [List.map_cons, List.map_nil, List.mem_singleton] at hy
    subst hy
    exact hne r hrL
  · rcases List.mem_append.1 hr' with h' | h'
    · exact h.2.2 r h'
    · simp only [List.mem_singleton] at h'
      subst h'
      exact ⟨hg, hr⟩
theorem Own.far (h : Own b L w) {g : Nat} (hlt : ∀ r ∈ L, r.1 ≠ g) (hg : b.heap.size ≤ g) (cs : Array Value) : Own b L (w.setRow g cs) :=
  ⟨below_setRow h.1 hg cs, h.2.1, fun r hr => ⟨(h.2.2 r hr).1, by obtain ⟨c, t, h1, h2, h3⟩ := (h.2.2 r hr).2; exact ⟨c, t, row_put_other h1 (hlt r hr), h2, h3⟩⟩⟩
theorem Own.far_size (g : Nat) (cs : Array Value) {M : Nat} (h : M ≤ w.heap.size) : M ≤ (w.setRow g cs).heap.size := by simpa [World.setRow] using h
theorem stored_of {V : Value → Prop} {n : Nat} {x : Value} {cs : Array Value} (hx : V x) (e : some x = some (.agg cs)) (hvc : ∀ v, V v → ∃ cs, v = .agg cs ∧ cs.size = n ∧ cs.all (·.oneCell') = true) : cs.size = n ∧ V (.agg cs) := by
  injection e with e; subst e
  obtain ⟨c, e1, e2, _⟩ := hvc _ hx
  injection e1 with e1; subst e1
  exact ⟨e2, hx⟩
theorem Own.ne_app {g g1 n1 : Nat} {V1 : Value → Prop} (h : ∀ r ∈ L, r.1 ≠ g) (h1 : g1 ≠ g) : ∀ r ∈ L ++ [(g1, n1, V1)], r.1 ≠ g := fun r hr => by
  rcases List.mem_append.1 hr with h' | h'
  · exact h r h'
  · simp only [List.mem_singleton] at h'; subst h'; exact h1
theorem Own.any {g n : Nat} (h : ∃ cs t, w.heap[g]? = some (Obj.cells cs t (0, 0)) ∧ cs.size = n) : ∃ cs t, w.heap[g]? = some (Obj.cells cs t (0, 0)) ∧ cs.size = n ∧ True := by
  obtain ⟨cs, t, h1, h2⟩ := h; exact ⟨cs, t, h1, h2, trivial⟩
theorem Own.take (h : Own b L w) (k : Nat) : Own b (L.take k) w :=
  ⟨h.1, by rw [List.map_take]; exact h.2.1.sublist (List.take_sublist _ _), fun r hr => h.2.2 r (List.mem_of_mem_take hr)⟩
theorem Own.put (h : Own b L w) {i g n : Nat} {V V' : Value → Prop} (hi : L[i]? = some (g, n, V)) (cs : Array Value) (hcs : cs.size = n) (hV : V' (.agg cs)) : Own b (L.set i (g, n, V')) (w.setRow g cs) := by
  have hm : (L.set i (g, n, V')).map (·.1) = L.map (·.1) := by
    rw [List.map_set]
    refine List.ext_getElem? fun k => ?_
    rw [List.getElem?_set]
    split
    · rename_i e
      subst e
      have : i < (L.map (·.1)).length := by rw [List.length_map]; exact (List.getElem?_eq_some_iff.1 hi).1
      simp only [this, if_true]
      rw [List.getElem?_map, hi]; rfl
    · rfl
  refine ⟨below_setRow h.1 (h.ge hi) _, by rw [hm]; exact h.2.1, fun r hr => ?_⟩
  obtain ⟨k, hk, hkr⟩ := List.getElem_of_mem hr
  rw [List.length_set] at hk
  by_cases e : i = k
  · subst e
    rw [List.getElem_set_self] at hkr
    subst hkr
    obtain ⟨cs0, t, h1, h2, _⟩ := h.get hi
    exact ⟨h.ge hi, cs, t, row_put h1, hcs, hV⟩
  · rw [List.getElem_set_ne e] at hkr
    subst hkr
    obtain ⟨h1, c, t, h2, h3, h4⟩ := h.2.2 _ (List.getElem_mem hk)
    refine ⟨h1, c, t, row_put_other h2 (fun e2 => e ?_), h3, h4⟩
    have hi' : i < L.length := (List.getElem?_eq_some_iff.1 hi).1
    have hg : L[i].1 = g := by rw [(List.getElem?_eq_some_iff.1 hi).2]
    have hnd := h.2.1
    have := List.getElem_inj (xs := L.map (·.1)) (i := k) (j := i) (h₀ := by simpa using hk) (h₁ := by simpa using hi') hnd
    exact (this.1 (by simpa [hg] using e2)).symm
end

section
variable {P : Program} {o : Oper} {a : Act} {w b : World} {Q : Exit → Act → World → Prop} {V : Value → Prop} {d : Nat} {K : Act → World → Prop} {L : List (Nat × Nat × (Value → Prop))}
theorem op_ld_own (n : Nat) {ty : TypeId} (hT : RowT P ty n) (x : Operand) (ho : o.op = .load ty x) (hd : o.dst = some d) (g : Nat) (hx : a.eval x = .pointer (some ⟨g, 0, none⟩)) (h : Own b L w) (i : Nat) (hi : L[i]? = some (g, n, V))
    (hK : ∀ x w', V x → Below w.heap.size w w' → K (a.put (some d) x) w') : o.wp P a w K Q := by
  obtain ⟨cs, t, h1, h2, h3⟩ := h.get hi
  exact op_ld _ x ho hd g hx cs t h1 n hT h2 h3 hK
theorem st_own {ops : Array Oper} {rest : List Oper} (n : Nat) {ty : TypeId} (hT : RowT P ty n) (hgd : o.guard = none) (x y : Operand) (ho : o.op = .store ty x y) (hd : o.dst = none) (g : Nat) (v : Value) (hx : a.eval x = .pointer (some ⟨g, 0, none⟩)) (hy : a.eval y = v)
    {V' : Value → Prop} (hv : V' v) (hvc : ∀ v, V' v → ∃ cs, v = .agg cs ∧ cs.size = n ∧ cs.all (·.oneCell') = true) (h : Own b L w) (i : Nat) (hi : L[i]? = some (g, n, V))
    (hK : ∀ w', Own b (L.set i (g, n, V')) w' → w'.heap.size = w.heap.size → wpList P ops Q rest a w') : wpList P ops Q (o :: rest) a w := by
  obtain ⟨cs, rfl, h2, h3⟩ := hvc v hv
  obtain ⟨c0, t, e1, e2, _⟩ := h.get hi
  refine st_row hgd _ x y ho g _ hx hy t c0 e1 n hT h2 e2 h3 ?_
  rw [hd]
  exact hK _ (h.put hi cs h2 hv) (by simp [World.setRow])
end
theorem by_row {l : List Int} (h : l.length = 32) : ∀ x : Value, x = .agg (vals l) → ∃ cs, x = .agg cs ∧ cs.size = 32 ∧ cs.all (·.oneCell') = true :=
  fun x hx => ⟨vals l, hx, by rw [vals_size, h], vals_one l⟩
/-- A list that begins with a move. -/
theorem held_move {P : Program} {ops : Array Oper} {rest : List Oper} {o : Oper} {Q : Exit → Act → World → Prop} {a : Act} {w : World} (x : Operand) (_ : o.op = .move x) (h : Held (wpList P ops Q (o :: rest) a w)) : wpList P ops Q (o :: rest) a w := h
theorem tKey : RowT Try.prog 68 32 := ⟨_, Try.underlying68, rfl, by kernel_rfl⟩
end Go.Proofs.Ytciakfhjjnmeeaa

namespace Go.Proofs.Ytciakfhjjnmeeaa
namespace Edw
open Nt

/-- The curve. -/
def On (d x y : F) : Prop := x * x + y * y = 1 + d * (x * x) * (y * y)
/-- No square. -/
def NonSq (d : F) : Prop := ∀ s : F, s * s ≠ d

theorem zz (a z : F) (h : z = 0) : a * z = 0 := by grind
theorem z1 (a : F) : a * 0 = 0 := zz a 0 rfl
theorem z2 (a b : F) : a * 0 + b * 0 = 0 := by rw [z1, z1]; exact Fin.add_zero 0
theorem z3 (a b c : F) : a * 0 + b * 0 + c * 0 = 0 := by rw [z2, z1]; exact Fin.add_zero 0
theorem one_r (a o : F) (h : o = 1) : a * o = a := by grind
theorem zero_r (a z : F) (h : z = 0) : a + z = a := by grind
theorem two_ne : (2 : F) ≠ 0 := by decide
theorem mul_ne {a b : F} (ha : a ≠ 0) (hb : b ≠ 0) : a * b ≠ 0 := fun h => (mul_eq_zero h).elim ha hb
theorem ne_of_mul_l {a b : F} (h : a * b ≠ 0) : a ≠ 0 := fun e => h (by rw [e]; grind)
theorem ne_of_mul_r {a b : F} (h : a * b ≠ 0) : b ≠ 0 := fun e => h (by rw [e]; grind)
theorem sub_ne {a b : F} (h : a ≠ b) : a - b ≠ 0 := fun e => h (by grind)
theorem eq_of_sub {a b : F} (h : a - b = 0) : a = b := by grind
/-- a / b. -/
theorem div_eq {a b c e : F} (hb : b ≠ 0) (he : e ≠ 0) (h : a * e = c * b) : a * inv b = c * inv e := by
  have h1 := mul_inv hb
  have h2 := mul_inv he
  have : a * inv b = a * (e * inv e) * inv b := by rw [h2]; grind
  rw [this]
  have h3 : a * (e * inv e) * inv b = (a * e) * inv e * inv b := by grind
  rw [h3, h]
  have h4 : c * b * inv e * inv b = c * inv e * (b * inv b) := by grind
  rw [h4, h1]; grind
theorem div_scale {a b c : F} (hc : c ≠ 0) : a * inv b = (a * c) * inv (b * c) := by
  rw [inv_mul_distrib]
  have := mul_inv hc
  have h : a * c * (inv b * inv c) = a * inv b * (c * inv c) := by grind
  rw [h, this]; grind
theorem div_self_mul {a b : F} (hb : b ≠ 0) : a * inv b * b = a := by
  have := inv_mul hb
  have h : a * inv b * b = a * (inv b * b) := by grind
  rw [h, this]; grind

section
variable {d : F}

theorem complete (hd : NonSq d) {x1 y1 x2 y2 e : F} (h1 : On d x1 y1) (h2 : On d x2 y2) (he : e * e = 1) : d * x1 * x2 * y1 * y2 ≠ e := by
  intro hde
  unfold On at h1 h2
  have hne : d * x1 * x2 * y1 * y2 ≠ 0 := by
    rw [hde]; intro h; rw [h] at he; exact one_ne_zero (by grind)
  have hx1 : x1 ≠ 0 := fun h => hne (by rw [h]; grind)
  have hy1 : y1 ≠ 0 := fun h => hne (by rw [h]; grind)
  have hx2 : x2 ≠ 0 := fun h => hne (by rw [h]; grind)
  have key : d * (x1 * y1) * (x1 * y1) * (x2 * x2 + y2 * y2) = x1 * x1 + y1 * y1 := by
    rw [h2]
    have : d * (x1 * y1) * (x1 * y1) * (1 + d * (x2 * x2) * (y2 * y2)) = d * (x1 * x1) * (y1 * y1) + (d * x1 * x2 * y1 * y2) * (d * x1 * x2 * y1 * y2) := by grind
    rw [this, hde, he]; grind
  have sq : ∀ s : F, (s = x2 + y2 ∨ s = x2 - y2) → s = 0 := by
    intro s hs
    false_or_by_contra
    rename_i hs0
    obtain ⟨t, ht⟩ : ∃ t : F, t * t = d * (x1 * y1 * s) * (x1 * y1 * s) := by
      rcases hs with rfl | rfl
      · refine ⟨x1 + e * y1, ?_⟩
        have a : (x1 + e * y1) * (x1 + e * y1) = x1 * x1 + (e * e) * (y1 * y1) + 2 * x1 * y1 * e := by grind
        rw [a, he, ← hde]
        have b : x1 * x1 + 1 * (y1 * y1) + 2 * x1 * y1 * (d * x1 * x2 * y1 * y2) = (x1 * x1 + y1 * y1) + 2 * x1 * y1 * (d * x1 * x2 * y1 * y2) := by grind
        rw [b, ← key]; grind
      · refine ⟨x1 - e * y1, ?_⟩
        have a : (x1 - e * y1) * (x1 - e * y1) = x1 * x1 + (e * e) * (y1 * y1) - 2 * x1 * y1 * e := by grind
        rw [a, he, ← hde]
        have b : x1 * x1 + 1 * (y1 * y1) - 2 * x1 * y1 * (d * x1 * x2 * y1 * y2) = (x1 * x1 + y1 * y1) - 2 * x1 * y1 * (d * x1 * x2 * y1 * y2) := by grind
        rw [b, ← key]; grind
    have hm : x1 * y1 * s ≠ 0 := mul_ne (mul_ne hx1 hy1) hs0
    have hi := mul_inv hm
    refine hd (t * inv (x1 * y1 * s)) ?_
    have a : t * inv (x1 * y1 * s) * (t * inv (x1 * y1 * s)) = (t * t) * (inv (x1 * y1 * s) * inv (x1 * y1 * s)) := by grind
    rw [a, ht]
    have b : d * (x1 * y1 * s) * (x1 * y1 * s) * (inv (x1 * y1 * s) * inv (x1 * y1 * s)) = d * ((x1 * y1 * s) * inv (x1 * y1 * s)) * ((x1 * y1 * s) * inv (x1 * y1 * s)) := by grind
    rw [b, hi]; grind
  have p1 := sq _ (Or.inl rfl)
  have p2 := sq _ (Or.inr rfl)
  have : 2 * x2 = 0 := by grind
  rcases mul_eq_zero this with h | h
  · exact two_ne h
  · exact hx2 h

/-- The sum's denominators are not 0. -/
theorem dens (hd : NonSq d) {x1 y1 x2 y2 : F} (h1 : On d x1 y1) (h2 : On d x2 y2) : 1 + d * x1 * x2 * y1 * y2 ≠ 0 ∧ 1 - d * x1 * x2 * y1 * y2 ≠ 0 := by
  have a := complete hd h1 h2 (e := 1) (by grind)
  have b := complete hd h1 h2 (e := -1) (by grind)
  exact ⟨fun h => b (by grind), fun h => a (by grind)⟩

def add (d : F) (p q : F × F) : F × F :=
  ((p.1 * q.2 + p.2 * q.1) * inv (1 + d * p.1 * q.1 * p.2 * q.2), (p.2 * q.2 - p.1 * q.1) * inv (1 - d * p.1 * q.1 * p.2 * q.2))
def neg (p : F × F) : F × F := (-p.1, p.2)
def zero : F × F := (0, 1)

theorem zero_on : On d zero.1 zero.2 := by simp only [On, zero]; grind
theorem neg_on {p : F × F} (h : On d p.1 p.2) : On d (neg p).1 (neg p).2 := by simp only [On, neg] at *; grind
theorem inv_one : inv (1 : F) = 1 := inv_of_mul (by grind)
theorem add_zero_at (x y z o : F) (hz : z = 0) (ho : o = 1) : 1 + d * x * z * y * o = 1 ∧ 1 - d * x * z * y * o = 1 ∧ (x * o + y * z) * o = x ∧ (y * o - x * z) * o = y := by
  have h : d * x * z * y * o = 0 := by grind
  rw [h]
  exact ⟨zero_r 1 0 rfl, (fun z (hz : z = 0) => (by grind : (1 : F) - z = 1)) 0 rfl, by grind, by grind⟩
theorem add_zero {p : F × F} : add d p zero = p := by
  obtain ⟨x, y⟩ := p
  obtain ⟨a, b, c, e⟩ := add_zero_at (d := d) x y 0 1 rfl rfl
  simp only [add, zero]
  rw [a, b, inv_one]
  exact Prod.ext c e
theorem add_comm (p q : F × F) : add d p q = add d q p := by
  obtain ⟨x, y⟩ := p
  obtain ⟨z, t⟩ := q
  simp only [add]
  have a : d * x * z * y * t = d * z * x * t * y := by grind
  rw [a]
  exact Prod.ext (by show (x * t + y * z) * _ = (z * y + t * x) * _; grind) (by show (y * t - x * z) * _ = (t * y - z * x) * _; grind)

theorem close_id {x1 y1 x2 y2 : F} (h1 : x1 * x1 + y1 * y1 - 1 - d * (x1 * x1) * (y1 * y1) = 0) (h2 : x2 * x2 + y2 * y2 - 1 - d * (x2 * x2) * (y2 * y2) = 0) :
    ((x1 * y2 + y1 * x2) * (1 - d * x1 * x2 * y1 * y2)) * ((x1 * y2 + y1 * x2) * (1 - d * x1 * x2 * y1 * y2)) + ((y1 * y2 - x1 * x2) * (1 + d * x1 * x2 * y1 * y2)) * ((y1 * y2 - x1 * x2) * (1 + d * x1 * x2 * y1 * y2))
      = ((1 + d * x1 * x2 * y1 * y2) * (1 - d * x1 * x2 * y1 * y2)) * ((1 + d * x1 * x2 * y1 * y2) * (1 - d * x1 * x2 * y1 * y2)) + d * ((x1 * y2 + y1 * x2) * (y1 * y2 - x1 * x2)) * ((x1 * y2 + y1 * x2) * (y1 * y2 - x1 * x2)) := by
  refine eq_of_sub ?_
  have key : ((x1 * y2 + y1 * x2) * (1 - d * x1 * x2 * y1 * y2)) * ((x1 * y2 + y1 * x2) * (1 - d * x1 * x2 * y1 * y2)) + ((y1 * y2 - x1 * x2) * (1 + d * x1 * x2 * y1 * y2)) * ((y1 * y2 - x1 * x2) * (1 + d * x1 * x2 * y1 * y2))
      - (((1 + d * x1 * x2 * y1 * y2) * (1 - d * x1 * x2 * y1 * y2)) * ((1 + d * x1 * x2 * y1 * y2) * (1 - d * x1 * x2 * y1 * y2)) + d * ((x1 * y2 + y1 * x2) * (y1 * y2 - x1 * x2)) * ((x1 * y2 + y1 * x2) * (y1 * y2 - x1 * x2)))
      = (0 + x1 * x1 * y1 * y1 * x2 * x2 * x2 * x2 * y2 * y2 * y2 * y2 * d * d * d + x1 * x1 * x2 * x2 * x2 * x2 * y2 * y2 * y2 * y2 * d * d - x1 * x1 * x2 * x2 * x2 * x2 * y2 * y2 * d - x1 * x1 * x2 * x2 * y2 * y2 * y2 * y2 * d + y1 * y1 * x2 * x2 * x2 * x2 * y2 * y2 * y2 * y2 * d * d - y1 * y1 * x2 * x2 * x2 * x2 * y2 * y2 * d - y1 * y1 * x2 * x2 * y2 * y2 * y2 * y2 * d - x2 * x2 * x2 * x2 * y2 * y2 * y2 * y2 * d * d + 2 * x2 * x2 * x2 * x2 * y2 * y2 * y2 * y2 * d - 2 * x2 * x2 * x2 * x2 * y2 * y2 + x2 * x2 * x2 * x2 - 2 * x2 * x2 * y2 * y2 * y2 * y2 - 2 * x2 * x2 * y2 * y2 * d + 4 * x2 * x2 * y2 * y2 + y2 * y2 * y2 * y2) * (x1 * x1 + y1 * y1 - 1 - d * (x1 * x1) * (y1 * y1)) + (0 + x1 * x1 * x1 * x1 * x2 * x2 * y2 * y2 * d - 2 * x1 * x1 * x2 * x2 * y2 * y2 * d + 2 * x1 * x1 * x2 * x2 * y2 * y2 - x1 * x1 * x2 * x2 - x1 * x1 * y2 * y2 + y1 * y1 * y1 * y1 * x2 * x2 * y2 * y2 * d - 2 * y1 * y1 * x2 * x2 * y2 * y2 * d + 2 * y1 * y1 * x2 * x2 * y2 * y2 - y1 * y1 * x2 * x2 - y1 * y1 * y2 * y2 + x2 * x2 * y2 * y2 * d - 2 * x2 * x2 * y2 * y2 + x2 * x2 + y2 * y2 + 1) * (x2 * x2 + y2 * y2 - 1 - d * (x2 * x2) * (y2 * y2)) := by clear h1 h2; grind
  rw [key, h1, h2]; exact z2 _ _

theorem on_sub {x y : F} (h : On d x y) : x * x + y * y - 1 - d * (x * x) * (y * y) = 0 := by unfold On at h; grind

theorem add_on (hd : NonSq d) {p q : F × F} (hp : On d p.1 p.2) (hq : On d q.1 q.2) : On d (add d p q).1 (add d p q).2 := by
  obtain ⟨x1, y1⟩ := p
  obtain ⟨x2, y2⟩ := q
  obtain ⟨hA, hB⟩ := dens hd hp hq
  have h := close_id (on_sub hp) (on_sub hq)
  simp only [add, On]
  simp only [] at hA hB
  generalize x1 * y2 + y1 * x2 = X at *
  generalize y1 * y2 - x1 * x2 = Y at *
  generalize 1 + d * x1 * x2 * y1 * y2 = A at *
  generalize 1 - d * x1 * x2 * y1 * y2 = B at *
  have ia := mul_inv hA
  have ib := mul_inv hB
  generalize inv A = a at *
  generalize inv B = b at *
  have e : X * a * (X * a) + Y * b * (Y * b) = (X * B * (X * B) + Y * A * (Y * A)) * (a * a * (b * b)) := by
    have : (X * B * (X * B) + Y * A * (Y * A)) * (a * a * (b * b)) = X * a * (X * a) * ((B * b) * (B * b)) + Y * b * (Y * b) * ((A * a) * (A * a)) := by grind
    rw [this, ia, ib]; grind
  rw [e, h]
  have : (A * B * (A * B) + d * (X * Y) * (X * Y)) * (a * a * (b * b)) = ((A * a) * (A * a)) * ((B * b) * (B * b)) + d * (X * a * (X * a)) * (Y * b * (Y * b)) := by grind
  rw [this, ia, ib]; grind

theorem assoc_x {x1 y1 x2 y2 x3 y3 : F} (h1 : x1 * x1 + y1 * y1 - 1 - d * (x1 * x1) * (y1 * y1) = 0) (h2 : x2 * x2 + y2 * y2 - 1 - d * (x2 * x2) * (y2 * y2) = 0) (h3 : x3 * x3 + y3 * y3 - 1 - d * (x3 * x3) * (y3 * y3) = 0) :
    ((x1 * y2 + y1 * x2) * (1 - d * x1 * x2 * y1 * y2) * y3 + (y1 * y2 - x1 * x2) * (1 + d * x1 * x2 * y1 * y2) * x3) * ((1 + d * x2 * x3 * y2 * y3) * (1 - d * x2 * x3 * y2 * y3) + d * (x2 * y3 + y2 * x3) * (y2 * y3 - x2 * x3) * x1 * y1) = ((x2 * y3 + y2 * x3) * (1 - d * x2 * x3 * y2 * y3) * y1 + (y2 * y3 - x2 * x3) * (1 + d * x2 * x3 * y2 * y3) * x1) * ((1 + d * x1 * x2 * y1 * y2) * (1 - d * x1 * x2 * y1 * y2) + d * (x1 * y2 + y1 * x2) * (y1 * y2 - x1 * x2) * x3 * y3) := by
  refine eq_of_sub ?_
  have key : ((x1 * y2 + y1 * x2) * (1 - d * x1 * x2 * y1 * y2) * y3 + (y1 * y2 - x1 * x2) * (1 + d * x1 * x2 * y1 * y2) * x3) * ((1 + d * x2 * x3 * y2 * y3) * (1 - d * x2 * x3 * y2 * y3) + d * (x2 * y3 + y2 * x3) * (y2 * y3 - x2 * x3) * x1 * y1) - ((x2 * y3 + y2 * x3) * (1 - d * x2 * x3 * y2 * y3) * y1 + (y2 * y3 - x2 * x3) * (1 + d * x2 * x3 * y2 * y3) * x1) * ((1 + d * x1 * x2 * y1 * y2) * (1 - d * x1 * x2 * y1 * y2) + d * (x1 * y2 + y1 * x2) * (y1 * y2 - x1 * x2) * x3 * y3)
      = (0 + x1 * x2 * x2 * x2 * x2 * y2 * y2 * y2 * x3 * x3 * y3 * d * d - x1 * x2 * x2 * x2 * x2 * y2 * x3 * x3 * y3 * d - x1 * x2 * x2 * x2 * y2 * y2 * y2 * y2 * x3 * y3 * y3 * d * d - x1 * x2 * x2 * x2 * y2 * y2 * x3 * x3 * x3 * d + x1 * x2 * x2 * x2 * y2 * y2 * x3 * d + x1 * x2 * x2 * y2 * y2 * y2 * y3 * y3 * y3 * d - x1 * x2 * x2 * y2 * y2 * y2 * y3 * d + x1 * x2 * y2 * y2 * y2 * y2 * x3 * y3 * y3 * d + y1 * x2 * x2 * x2 * x2 * y2 * y2 * y2 * x3 * y3 * y3 * d * d - y1 * x2 * x2 * x2 * x2 * y2 * x3 * y3 * y3 * d + y1 * x2 * x2 * x2 * y2 * y2 * y2 * y2 * x3 * x3 * y3 * d * d + y1 * x2 * x2 * x2 * y2 * y2 * y3 * y3 * y3 * d - y1 * x2 * x2 * x2 * y2 * y2 * y3 * d + y1 * x2 * x2 * y2 * y2 * y2 * x3 * x3 * x3 * d - y1 * x2 * x2 * y2 * y2 * y2 * x3 * d - y1 * x2 * y2 * y2 * y2 * y2 * x3 * x3 * y3 * d) * (x1 * x1 + y1 * y1 - 1 - d * (x1 * x1) * (y1 * y1)) + (0 + x1 * x1 * x1 * x2 * x2 * y2 * x3 * x3 * y3 * d - x1 * x1 * x1 * x2 * y2 * y2 * x3 * y3 * y3 * d + x1 * x1 * x1 * x2 * x3 * x3 * x3 * y3 * y3 * d - x1 * x1 * x1 * x2 * x3 * x3 * x3 - x1 * x1 * x1 * x2 * x3 * y3 * y3 + x1 * x1 * x1 * x2 * x3 - x1 * x1 * x1 * y2 * x3 * x3 * y3 * y3 * y3 * d + x1 * x1 * x1 * y2 * x3 * x3 * y3 + x1 * x1 * x1 * y2 * y3 * y3 * y3 - x1 * x1 * x1 * y2 * y3 - x1 * x1 * y1 * x2 * x2 * y2 * x3 * x3 * x3 * y3 * y3 * d * d + x1 * x1 * y1 * x2 * x2 * y2 * x3 * y3 * y3 * d - x1 * x1 * y1 * x2 * y2 * y2 * x3 * x3 * y3 * y3 * y3 * d * d + x1 * x1 * y1 * x2 * y2 * y2 * x3 * x3 * y3 * d - x1 * x1 * y1 * x2 * x3 * x3 * y3 * y3 * y3 * d + x1 * x1 * y1 * x2 * x3 * x3 * y3 + x1 * x1 * y1 * x2 * y3 * y3 * y3 - x1 * x1 * y1 * x2 * y3 - x1 * x1 * y1 * y2 * x3 * x3 * x3 * y3 * y3 * d + x1 * x1 * y1 * y2 * x3 * x3 * x3 + x1 * x1 * y1 * y2 * x3 * y3 * y3 - x1 * x1 * y1 * y2 * x3 - x1 * y1 * y1 * x2 * x2 * y2 * x3 * x3 * y3 * y3 * y3 * d * d + x1 * y1 * y1 * x2 * x2 * y2 * x3 * x3 * y3 * d + x1 * y1 * y1 * x2 * y2 * y2 * x3 * x3 * x3 * y3 * y3 * d * d - x1 * y1 * y1 * x2 * y2 * y2 * x3 * y3 * y3 * d + x1 * y1 * y1 * x2 * x3 * x3 * x3 * y3 * y3 * d - x1 * y1 * y1 * x2 * x3 * x3 * x3 - x1 * y1 * y1 * x2 * x3 * y3 * y3 + x1 * y1 * y1 * x2 * x3 - x1 * y1 * y1 * y2 * x3 * x3 * y3 * y3 * y3 * d + x1 * y1 * y1 * y2 * x3 * x3 * y3 + x1 * y1 * y1 * y2 * y3 * y3 * y3 - x1 * y1 * y1 * y2 * y3 - x1 * x2 * x2 * y2 * x3 * x3 * y3 * d + x1 * x2 * y2 * y2 * x3 * y3 * y3 * d - x1 * x2 * x3 * x3 * x3 * y3 * y3 * d + x1 * x2 * x3 * x3 * x3 + x1 * x2 * x3 * y3 * y3 - x1 * x2 * x3 + x1 * y2 * x3 * x3 * y3 * y3 * y3 * d - x1 * y2 * x3 * x3 * y3 - x1 * y2 * y3 * y3 * y3 + x1 * y2 * y3 + y1 * y1 * y1 * x2 * x2 * y2 * x3 * y3 * y3 * d + y1 * y1 * y1 * x2 * y2 * y2 * x3 * x3 * y3 * d - y1 * y1 * y1 * x2 * x3 * x3 * y3 * y3 * y3 * d + y1 * y1 * y1 * x2 * x3 * x3 * y3 + y1 * y1 * y1 * x2 * y3 * y3 * y3 - y1 * y1 * y1 * x2 * y3 - y1 * y1 * y1 * y2 * x3 * x3 * x3 * y3 * y3 * d + y1 * y1 * y1 * y2 * x3 * x3 * x3 + y1 * y1 * y1 * y2 * x3 * y3 * y3 - y1 * y1 * y1 * y2 * x3 - y1 * x2 * x2 * y2 * x3 * y3 * y3 * d - y1 * x2 * y2 * y2 * x3 * x3 * y3 * d + y1 * x2 * x3 * x3 * y3 * y3 * y3 * d - y1 * x2 * x3 * x3 * y3 - y1 * x2 * y3 * y3 * y3 + y1 * x2 * y3 + y1 * y2 * x3 * x3 * x3 * y3 * y3 * d - y1 * y2 * x3 * x3 * x3 - y1 * y2 * x3 * y3 * y3 + y1 * y2 * x3) * (x2 * x2 + y2 * y2 - 1 - d * (x2 * x2) * (y2 * y2)) + (0 + x1 * x1 * x1 * x2 * x2 * x2 * x3 - x1 * x1 * x1 * x2 * x2 * y2 * y3 + x1 * x1 * x1 * x2 * y2 * y2 * x3 - x1 * x1 * x1 * x2 * x3 - x1 * x1 * x1 * y2 * y2 * y2 * y3 + x1 * x1 * x1 * y2 * y3 - x1 * x1 * y1 * x2 * x2 * x2 * y3 + x1 * x1 * y1 * x2 * x2 * y2 * x3 * d - x1 * x1 * y1 * x2 * x2 * y2 * x3 + x1 * x1 * y1 * x2 * y2 * y2 * y3 * d - x1 * x1 * y1 * x2 * y2 * y2 * y3 + x1 * x1 * y1 * x2 * y3 - x1 * x1 * y1 * y2 * y2 * y2 * x3 + x1 * x1 * y1 * y2 * x3 + x1 * y1 * y1 * x2 * x2 * x2 * x3 + x1 * y1 * y1 * x2 * x2 * y2 * y3 * d - x1 * y1 * y1 * x2 * x2 * y2 * y3 - x1 * y1 * y1 * x2 * y2 * y2 * x3 * d + x1 * y1 * y1 * x2 * y2 * y2 * x3 - x1 * y1 * y1 * x2 * x3 - x1 * y1 * y1 * y2 * y2 * y2 * y3 + x1 * y1 * y1 * y2 * y3 - x1 * x2 * x2 * x2 * x3 + x1 * x2 * x2 * y2 * y3 - x1 * x2 * y2 * y2 * x3 + x1 * x2 * x3 + x1 * y2 * y2 * y2 * y3 - x1 * y2 * y3 - y1 * y1 * y1 * x2 * x2 * x2 * y3 - y1 * y1 * y1 * x2 * x2 * y2 * x3 - y1 * y1 * y1 * x2 * y2 * y2 * y3 + y1 * y1 * y1 * x2 * y3 - y1 * y1 * y1 * y2 * y2 * y2 * x3 + y1 * y1 * y1 * y2 * x3 + y1 * x2 * x2 * x2 * y3 + y1 * x2 * x2 * y2 * x3 + y1 * x2 * y2 * y2 * y3 - y1 * x2 * y3 + y1 * y2 * y2 * y2 * x3 - y1 * y2 * x3) * (x3 * x3 + y3 * y3 - 1 - d * (x3 * x3) * (y3 * y3)) := by clear h1 h2 h3; grind
  rw [key, h1, h2, h3]; exact z3 _ _ _
theorem assoc_y {x1 y1 x2 y2 x3 y3 : F} (h1 : x1 * x1 + y1 * y1 - 1 - d * (x1 * x1) * (y1 * y1) = 0) (h2 : x2 * x2 + y2 * y2 - 1 - d * (x2 * x2) * (y2 * y2) = 0) (h3 : x3 * x3 + y3 * y3 - 1 - d * (x3 * x3) * (y3 * y3) = 0) :
    ((y1 * y2 - x1 * x2) * (1 + d * x1 * x2 * y1 * y2) * y3 - (x1 * y2 + y1 * x2) * (1 - d * x1 * x2 * y1 * y2) * x3) * ((1 + d * x2 * x3 * y2 * y3) * (1 - d * x2 * x3 * y2 * y3) - d * (x2 * y3 + y2 * x3) * (y2 * y3 - x2 * x3) * x1 * y1) = ((y2 * y3 - x2 * x3) * (1 + d * x2 * x3 * y2 * y3) * y1 - (x2 * y3 + y2 * x3) * (1 - d * x2 * x3 * y2 * y3) * x1) * ((1 + d * x1 * x2 * y1 * y2) * (1 - d * x1 * x2 * y1 * y2) - d * (x1 * y2 + y1 * x2) * (y1 * y2 - x1 * x2) * x3 * y3) := by
  refine eq_of_sub ?_
  have key : ((y1 * y2 - x1 * x2) * (1 + d * x1 * x2 * y1 * y2) * y3 - (x1 * y2 + y1 * x2) * (1 - d * x1 * x2 * y1 * y2) * x3) * ((1 + d * x2 * x3 * y2 * y3) * (1 - d * x2 * x3 * y2 * y3) - d * (x2 * y3 + y2 * x3) * (y2 * y3 - x2 * x3) * x1 * y1) - ((y2 * y3 - x2 * x3) * (1 + d * x2 * x3 * y2 * y3) * y1 - (x2 * y3 + y2 * x3) * (1 - d * x2 * x3 * y2 * y3) * x1) * ((1 + d * x1 * x2 * y1 * y2) * (1 - d * x1 * x2 * y1 * y2) - d * (x1 * y2 + y1 * x2) * (y1 * y2 - x1 * x2) * x3 * y3)
      = (0 - x1 * x2 * x2 * x2 * x2 * y2 * y2 * y2 * x3 * y3 * y3 * d * d + x1 * x2 * x2 * x2 * x2 * y2 * x3 * y3 * y3 * d - x1 * x2 * x2 * x2 * y2 * y2 * y2 * y2 * x3 * x3 * y3 * d * d - x1 * x2 * x2 * x2 * y2 * y2 * y3 * y3 * y3 * d + x1 * x2 * x2 * x2 * y2 * y2 * y3 * d - x1 * x2 * x2 * y2 * y2 * y2 * x3 * x3 * x3 * d + x1 * x2 * x2 * y2 * y2 * y2 * x3 * d + x1 * x2 * y2 * y2 * y2 * y2 * x3 * x3 * y3 * d + y1 * x2 * x2 * x2 * x2 * y2 * y2 * y2 * x3 * x3 * y3 * d * d - y1 * x2 * x2 * x2 * x2 * y2 * x3 * x3 * y3 * d - y1 * x2 * x2 * x2 * y2 * y2 * y2 * y2 * x3 * y3 * y3 * d * d - y1 * x2 * x2 * x2 * y2 * y2 * x3 * x3 * x3 * d + y1 * x2 * x2 * x2 * y2 * y2 * x3 * d + y1 * x2 * x2 * y2 * y2 * y2 * y3 * y3 * y3 * d - y1 * x2 * x2 * y2 * y2 * y2 * y3 * d + y1 * x2 * y2 * y2 * y2 * y2 * x3 * y3 * y3 * d) * (x1 * x1 + y1 * y1 - 1 - d * (x1 * x1) * (y1 * y1)) + (0 - x1 * x1 * x1 * x2 * x2 * y2 * x3 * y3 * y3 * d - x1 * x1 * x1 * x2 * y2 * y2 * x3 * x3 * y3 * d + x1 * x1 * x1 * x2 * x3 * x3 * y3 * y3 * y3 * d - x1 * x1 * x1 * x2 * x3 * x3 * y3 - x1 * x1 * x1 * x2 * y3 * y3 * y3 + x1 * x1 * x1 * x2 * y3 + x1 * x1 * x1 * y2 * x3 * x3 * x3 * y3 * y3 * d - x1 * x1 * x1 * y2 * x3 * x3 * x3 - x1 * x1 * x1 * y2 * x3 * y3 * y3 + x1 * x1 * x1 * y2 * x3 - x1 * x1 * y1 * x2 * x2 * y2 * x3 * x3 * y3 * y3 * y3 * d * d + x1 * x1 * y1 * x2 * x2 * y2 * x3 * x3 * y3 * d + x1 * x1 * y1 * x2 * y2 * y2 * x3 * x3 * x3 * y3 * y3 * d * d - x1 * x1 * y1 * x2 * y2 * y2 * x3 * y3 * y3 * d + x1 * x1 * y1 * x2 * x3 * x3 * x3 * y3 * y3 * d - x1 * x1 * y1 * x2 * x3 * x3 * x3 - x1 * x1 * y1 * x2 * x3 * y3 * y3 + x1 * x1 * y1 * x2 * x3 - x1 * x1 * y1 * y2 * x3 * x3 * y3 * y3 * y3 * d + x1 * x1 * y1 * y2 * x3 * x3 * y3 + x1 * x1 * y1 * y2 * y3 * y3 * y3 - x1 * x1 * y1 * y2 * y3 + x1 * y1 * y1 * x2 * x2 * y2 * x3 * x3 * x3 * y3 * y3 * d * d - x1 * y1 * y1 * x2 * x2 * y2 * x3 * y3 * y3 * d + x1 * y1 * y1 * x2 * y2 * y2 * x3 * x3 * y3 * y3 * y3 * d * d - x1 * y1 * y1 * x2 * y2 * y2 * x3 * x3 * y3 * d + x1 * y1 * y1 * x2 * x3 * x3 * y3 * y3 * y3 * d - x1 * y1 * y1 * x2 * x3 * x3 * y3 - x1 * y1 * y1 * x2 * y3 * y3 * y3 + x1 * y1 * y1 * x2 * y3 + x1 * y1 * y1 * y2 * x3 * x3 * x3 * y3 * y3 * d - x1 * y1 * y1 * y2 * x3 * x3 * x3 - x1 * y1 * y1 * y2 * x3 * y3 * y3 + x1 * y1 * y1 * y2 * x3 + x1 * x2 * x2 * y2 * x3 * y3 * y3 * d + x1 * x2 * y2 * y2 * x3 * x3 * y3 * d - x1 * x2 * x3 * x3 * y3 * y3 * y3 * d + x1 * x2 * x3 * x3 * y3 + x1 * x2 * y3 * y3 * y3 - x1 * x2 * y3 - x1 * y2 * x3 * x3 * x3 * y3 * y3 * d + x1 * y2 * x3 * x3 * x3 + x1 * y2 * x3 * y3 * y3 - x1 * y2 * x3 + y1 * y1 * y1 * x2 * x2 * y2 * x3 * x3 * y3 * d - y1 * y1 * y1 * x2 * y2 * y2 * x3 * y3 * y3 * d + y1 * y1 * y1 * x2 * x3 * x3 * x3 * y3 * y3 * d - y1 * y1 * y1 * x2 * x3 * x3 * x3 - y1 * y1 * y1 * x2 * x3 * y3 * y3 + y1 * y1 * y1 * x2 * x3 - y1 * y1 * y1 * y2 * x3 * x3 * y3 * y3 * y3 * d + y1 * y1 * y1 * y2 * x3 * x3 * y3 + y1 * y1 * y1 * y2 * y3 * y3 * y3 - y1 * y1 * y1 * y2 * y3 - y1 * x2 * x2 * y2 * x3 * x3 * y3 * d + y1 * x2 * y2 * y2 * x3 * y3 * y3 * d - y1 * x2 * x3 * x3 * x3 * y3 * y3 * d + y1 * x2 * x3 * x3 * x3 + y1 * x2 * x3 * y3 * y3 - y1 * x2 * x3 + y1 * y2 * x3 * x3 * y3 * y3 * y3 * d - y1 * y2 * x3 * x3 * y3 - y1 * y2 * y3 * y3 * y3 + y1 * y2 * y3) * (x2 * x2 + y2 * y2 - 1 - d * (x2 * x2) * (y2 * y2)) + (0 + x1 * x1 * x1 * x2 * x2 * x2 * y3 + x1 * x1 * x1 * x2 * x2 * y2 * x3 + x1 * x1 * x1 * x2 * y2 * y2 * y3 - x1 * x1 * x1 * x2 * y3 + x1 * x1 * x1 * y2 * y2 * y2 * x3 - x1 * x1 * x1 * y2 * x3 + x1 * x1 * y1 * x2 * x2 * x2 * x3 + x1 * x1 * y1 * x2 * x2 * y2 * y3 * d - x1 * x1 * y1 * x2 * x2 * y2 * y3 - x1 * x1 * y1 * x2 * y2 * y2 * x3 * d + x1 * x1 * y1 * x2 * y2 * y2 * x3 - x1 * x1 * y1 * x2 * x3 - x1 * x1 * y1 * y2 * y2 * y2 * y3 + x1 * x1 * y1 * y2 * y3 + x1 * y1 * y1 * x2 * x2 * x2 * y3 - x1 * y1 * y1 * x2 * x2 * y2 * x3 * d + x1 * y1 * y1 * x2 * x2 * y2 * x3 - x1 * y1 * y1 * x2 * y2 * y2 * y3 * d + x1 * y1 * y1 * x2 * y2 * y2 * y3 - x1 * y1 * y1 * x2 * y3 + x1 * y1 * y1 * y2 * y2 * y2 * x3 - x1 * y1 * y1 * y2 * x3 - x1 * x2 * x2 * x2 * y3 - x1 * x2 * x2 * y2 * x3 - x1 * x2 * y2 * y2 * y3 + x1 * x2 * y3 - x1 * y2 * y2 * y2 * x3 + x1 * y2 * x3 + y1 * y1 * y1 * x2 * x2 * x2 * x3 - y1 * y1 * y1 * x2 * x2 * y2 * y3 + y1 * y1 * y1 * x2 * y2 * y2 * x3 - y1 * y1 * y1 * x2 * x3 - y1 * y1 * y1 * y2 * y2 * y2 * y3 + y1 * y1 * y1 * y2 * y3 - y1 * x2 * x2 * x2 * x3 + y1 * x2 * x2 * y2 * y3 - y1 * x2 * y2 * y2 * x3 + y1 * x2 * x3 + y1 * y2 * y2 * y2 * y3 - y1 * y2 * y3) * (x3 * x3 + y3 * y3 - 1 - d * (x3 * x3) * (y3 * y3)) := by clear h1 h2 h3; grind
  rw [key, h1, h2, h3]; exact z3 _ _ _

/-- A sum of a sum as one fraction. -/
theorem left_form {X A Y B x3 y3 : F} (hA : A ≠ 0) (hB : B ≠ 0) :
    add d (X * inv A, Y * inv B) (x3, y3) = ((X * B * y3 + Y * A * x3) * inv (A * B + d * X * Y * x3 * y3), (Y * A * y3 - X * B * x3) * inv (A * B - d * X * Y * x3 * y3)) := by
  have ia := mul_inv hA
  have ib := mul_inv hB
  simp only [add]
  have hAB := mul_ne hA hB
  refine Prod.ext ?_ ?_
  · show (X * inv A * y3 + Y * inv B * x3) * inv (1 + d * (X * inv A) * x3 * (Y * inv B) * y3) = _
    rw [div_scale hAB]
    have e1 : (X * inv A * y3 + Y * inv B * x3) * (A * B) = X * (A * inv A) * B * y3 + Y * (B * inv B) * A * x3 := by grind
    have e2 : (1 + d * (X * inv A) * x3 * (Y * inv B) * y3) * (A * B) = A * B + d * X * (A * inv A) * Y * (B * inv B) * x3 * y3 := by grind
    rw [e1, e2, ia, ib]
    have e3 : X * 1 * B * y3 + Y * 1 * A * x3 = X * B * y3 + Y * A * x3 := by grind
    have e4 : A * B + d * X * 1 * Y * 1 * x3 * y3 = A * B + d * X * Y * x3 * y3 := by grind
    rw [e3, e4]
  · show (Y * inv B * y3 - X * inv A * x3) * inv (1 - d * (X * inv A) * x3 * (Y * inv B) * y3) = _
    rw [div_scale hAB]
    have e1 : (Y * inv B * y3 - X * inv A * x3) * (A * B) = Y * (B * inv B) * A * y3 - X * (A * inv A) * B * x3 := by grind
    have e2 : (1 - d * (X * inv A) * x3 * (Y * inv B) * y3) * (A * B) = A * B - d * X * (A * inv A) * Y * (B * inv B) * x3 * y3 := by grind
    rw [e1, e2, ia, ib]
    have e3 : Y * 1 * A * y3 - X * 1 * B * x3 = Y * A * y3 - X * B * x3 := by grind
    have e4 : A * B - d * X * 1 * Y * 1 * x3 * y3 = A * B - d * X * Y * x3 * y3 := by grind
    rw [e3, e4]

/-- The denominators of a sum of a sum. -/
theorem left_dens (hd : NonSq d) {X A Y B x3 y3 : F} (hA : A ≠ 0) (hB : B ≠ 0) (h : On d (X * inv A) (Y * inv B)) (h3 : On d x3 y3) : A * B + d * X * Y * x3 * y3 ≠ 0 ∧ A * B - d * X * Y * x3 * y3 ≠ 0 := by
  obtain ⟨a, b⟩ := dens hd h h3
  have hAB := mul_ne hA hB
  have ia := mul_inv hA
  have ib := mul_inv hB
  have e2 : (1 + d * (X * inv A) * x3 * (Y * inv B) * y3) * (A * B) = A * B + d * X * (A * inv A) * Y * (B * inv B) * x3 * y3 := by grind
  have e2' : (1 - d * (X * inv A) * x3 * (Y * inv B) * y3) * (A * B) = A * B - d * X * (A * inv A) * Y * (B * inv B) * x3 * y3 := by grind
  have f := mul_ne a hAB
  have g := mul_ne b hAB
  rw [e2, ia, ib] at f
  rw [e2', ia, ib] at g
  exact ⟨fun h => f (by grind), fun h => g (by grind)⟩

theorem add_assoc (hd : NonSq d) {p q r : F × F} (hp : On d p.1 p.2) (hq : On d q.1 q.2) (hr : On d r.1 r.2) : add d (add d p q) r = add d p (add d q r) := by
  rw [add_comm p (add d q r)]
  have o1 := add_on hd hp hq
  have o2 := add_on hd hq hr
  obtain ⟨x1, y1⟩ := p
  obtain ⟨x2, y2⟩ := q
  obtain ⟨x3, y3⟩ := r
  obtain ⟨a1, b1⟩ := dens hd hp hq
  obtain ⟨a2, b2⟩ := dens hd hq hr
  obtain ⟨c1, c2⟩ := left_dens hd a1 b1 o1 hr
  obtain ⟨c3, c4⟩ := left_dens hd a2 b2 o2 hp
  have l1 := left_form (d := d) (X := x1 * y2 + y1 * x2) (Y := y1 * y2 - x1 * x2) (x3 := x3) (y3 := y3) a1 b1
  have l2 := left_form (d := d) (X := x2 * y3 + y2 * x3) (Y := y2 * y3 - x2 * x3) (x3 := x1) (y3 := y1) a2 b2
  refine l1.trans (Eq.trans ?_ l2.symm)
  have s1 := on_sub hp
  have s2 := on_sub hq
  have s3 := on_sub hr
  exact Prod.ext (div_eq c1 c3 (assoc_x s1 s2 s3)) (div_eq c2 c4 (assoc_y s1 s2 s3))

theorem neg_add (hd : NonSq d) {p : F × F} (hp : On d p.1 p.2) : add d (neg p) p = zero := by
  obtain ⟨x, y⟩ := p
  obtain ⟨a, b⟩ := dens hd (neg_on hp) hp
  simp only [neg] at a b
  simp only [add, neg, zero]
  refine Prod.ext ?_ ?_
  · show (-x * y + y * x) * _ = 0
    have : -x * y + y * x = 0 := by grind
    rw [this]; grind
  · show (y * y - -x * x) * inv (1 - d * -x * x * y * y) = 1
    have : y * y - -x * x = 1 - d * -x * x * y * y := by
      have := on_sub hp
      simp only [] at this
      grind
    rw [this]; exact mul_inv b

/-- n times a point. -/
def mul (d : F) (p : F × F) : Nat → F × F
  | 0 => zero
  | n + 1 => add d (mul d p n) p

theorem mul_on (hd : NonSq d) {p : F × F} (hp : On d p.1 p.2) : ∀ n, On d (mul d p n).1 (mul d p n).2
  | 0 => zero_on
  | n + 1 => add_on hd (mul_on hd hp n) hp
theorem mul_one (p : F × F) : mul d p 1 = p := by
  show add d zero p = p
  rw [add_comm, add_zero]
theorem mul_add (hd : NonSq d) {p : F × F} (hp : On d p.1 p.2) (m : Nat) : ∀ n, mul d p (m + n) = add d (mul d p m) (mul d p n)
  | 0 => by rw [Nat.add_zero]; exact add_zero.symm
  | n + 1 => by
    rw [← Nat.add_assoc]
    show add d (mul d p (m + n)) p = add d (mul d p m) (add d (mul d p n) p)
    rw [mul_add hd hp m n, add_assoc hd (mul_on hd hp m) (mul_on hd hp n) hp]
theorem mul_mul (hd : NonSq d) {p : F × F} (hp : On d p.1 p.2) (m : Nat) : ∀ n, mul d (mul d p m) n = mul d p (m * n)
  | 0 => rfl
  | n + 1 => by
    show add d (mul d (mul d p m) n) (mul d p m) = _
    rw [mul_mul hd hp m n, ← mul_add hd hp, Nat.mul_succ]
theorem mul_swap (hd : NonSq d) {p : F × F} (hp : On d p.1 p.2) (m n : Nat) : mul d (mul d p m) n = mul d (mul d p n) m := by
  rw [mul_mul hd hp, mul_mul hd hp, Nat.mul_comm]
theorem mul_zero_pt : ∀ n, mul d zero n = zero
  | 0 => rfl
  | n + 1 => by show add d (mul d zero n) zero = zero; rw [add_zero, mul_zero_pt n]
end
end Edw
end Go.Proofs.Ytciakfhjjnmeeaa
