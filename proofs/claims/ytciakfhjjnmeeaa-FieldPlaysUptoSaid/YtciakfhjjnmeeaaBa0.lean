/- Texts of this proof's own, one behind the other: plain laws and walks of the packages field and ladder. No condition. -/
import Derived.WalkKit
import Derived.WalkSpells
import Derived.WalkLawsBesides
import Derived.RegionTactic
import Derived.BigRegion
import Derived.ChangeAlike
import Derived.Handy
import Derived.StillTailTactics
import Derived.Lib.Hide
import Derived.Laws.CopyOwn
import Derived.Deep.WholeRow
import Derived.RowKit
import Derived.Deep.RegionHeld3
import Derived.StillTail
namespace Go.Proofs.Ytciakfhjjnmeeaa
open Go.RowKit
variable {P : Program}

/-- A row of n cells by value. -/
def RowT (P : Program) (ty : TypeId) (n : Nat) : Prop :=
  ∃ d, P.underlying ty = some d ∧ (match d with | .struct _ | .array _ _ => true | _ => false) = true ∧ (P.info? ty).map (·.size) = some n

/-- The goal is a list of operations (asked ahead of a law on lists, so that nothing is unfolded where it is none). -/
theorem guard_list {l : List Oper} {ops' : Array Oper} {a : Act} {w : World} {Q : Exit → Act → World → Prop} (h : wpList P ops' Q l a w) : wpList P ops' Q l a w := h

theorem ld_row {ops : Array Oper} {rest : List Oper} {o : Oper} {a : Act} {w : World} {Q : Exit → Act → World → Prop} (hgd : o.guard = none) (ty : TypeId) (x : Operand) (ho : o.op = .load ty x)
    (g : Nat) (hx : a.eval x = .pointer (some ⟨g, 0, none⟩)) (cs : Array Value) (t : TypeId) (hg : w.heap[g]? = some (.cells cs t (0, 0))) (n : Nat) (hT : RowT P ty n) (hn : cs.size = n)
    (h : wpList P ops Q rest (a.put o.dst (.agg cs)) w) : wpList P ops Q (o :: rest) a w := by
  obtain ⟨d, h1, h2, h3⟩ := hT
  subst hn
  exact wpList_load_row hgd ty x ho g hx t cs (0, 0) d hg h1 (by cases d <;> simp_all) h3 h

theorem st_row {ops : Array Oper} {rest : List Oper} {o : Oper} {a : Act} {w : World} {Q : Exit → Act → World → Prop} (hgd : o.guard = none) (ty : TypeId) (x y : Operand) (ho : o.op = .store ty x y)
    (g : Nat) (cs : Array Value) (hx : a.eval x = .pointer (some ⟨g, 0, none⟩)) (hy : a.eval y = .agg cs) (t : TypeId) (old : Array Value) (hg : w.heap[g]? = some (.cells old t (0, 0)))
    (n : Nat) (hT : RowT P ty n) (hn : cs.size = n) (ho' : old.size = n) (h1 : cs.all (·.oneCell') = true)
    (h : wpList P ops Q rest (a.put o.dst undef) (w.setRow g cs)) : wpList P ops Q (o :: rest) a w := by
  obtain ⟨d, _, _, h3⟩ := hT
  subst hn
  exact wpList_store_row hgd ty x y ho g cs hx hy t old hg h3 ho' h1 h

/-- A whole value into the block that was made last. -/
theorem st_new {ops : Array Oper} {rest : List Oper} {o : Oper} {a : Act} {w : World} {Q : Exit → Act → World → Prop} (hgd : o.guard = none) (ty : TypeId) (x y : Operand) (ho : o.op = .store ty x y)
    (cs : Array Value) (t : TypeId) (old : Array Value) (hx : a.eval x = .pointer (some ⟨w.heap.size, 0, none⟩)) (hy : a.eval y = .agg cs)
    (n : Nat) (hT : RowT P ty n) (hn : cs.size = n) (ho' : old.size = n) (h1 : cs.all (·.oneCell') = true)
    (h : wpList P ops Q rest (a.put o.dst undef) (w.alloc (.cells cs t))) : wpList P ops Q (o :: rest) a (w.alloc (.cells old t)) := by
  refine st_row hgd ty x y ho w.heap.size cs hx hy t old (heap_alloc_last w _) n hT hn ho' h1 ?_
  rw [World.setRow_alloc_new]
  exact h

theorem ret_row {fn : Func} {R : Ending → World → Prop} {a : Act} {w : World} {p : Tmp} {ty : TypeId} (h : fn.results = #[.cell p ty]) (g : Nat) (cs : Array Value) (t : TypeId)
    (hp : a.tmps.getD p undef = .pointer (some ⟨g, 0, none⟩)) (hg : w.heap[g]? = some (.cells cs t (0, 0))) (n : Nat) (hT : RowT P ty n) (hn : cs.size = n) (hd : a.defers = [])
    (hR : R (.returned (.agg cs)) w) : bodyPost P fn R .ret a w := by
  obtain ⟨d, h1, h2, h3⟩ := hT
  subst hn
  exact bodyPost_ret (results_cell_row h a.tmps w g t cs (0, 0) d hp hg h1 (by cases d <;> simp_all) h3) hd hR

/-- A row and a temporary handed back. -/
theorem ret_row_tmp {fn : Func} {R : Ending → World → Prop} {a : Act} {w : World} {p u : Tmp} {ty : TypeId} (h : fn.results = #[.cell p ty, .tmp u]) (g : Nat) (cs : Array Value) (t : TypeId)
    (hp : a.tmps.getD p undef = .pointer (some ⟨g, 0, none⟩)) (hg : w.heap[g]? = some (.cells cs t (0, 0))) (n : Nat) (hT : RowT P ty n) (hn : cs.size = n) (hd : a.defers = [])
    (hR : R (.returned (.tuple #[.agg cs, a.tmps.getD u undef])) w) : bodyPost P fn R .ret a w := by
  obtain ⟨d, h1, h2, h3⟩ := hT
  subst hn
  refine bodyPost_ret (v := .tuple #[.agg cs, a.tmps.getD u undef]) ?_ hd hR
  have hl := run_loadVar_row (P := P) w g t ty cs (0, 0) d hg h1 (by cases d <;> simp_all) h3
  rw [results_cell_tmp h a.tmps P w, hp]
  simp [asAddr, hl]

theorem row_cell {w : World} {g : Nat} {cs : Array Value} {t : TypeId} (h : w.heap[g]? = some (.cells cs t (0, 0))) (j : Nat) : w.cell? ⟨g, j, none⟩ = cs[j]? := cell_of_row w g j cs t _ h
theorem row_free {w : World} {g : Nat} {cs : Array Value} {t : TypeId} (h : w.heap[g]? = some (.cells cs t (0, 0))) (j : Nat) : w.frozen? ⟨g, j, none⟩ = false := frozen_of_row w g j cs t h
theorem row_lt {w : World} {g : Nat} {cs : Array Value} {t : TypeId} (h : w.heap[g]? = some (.cells cs t (0, 0))) : g < w.heap.size := by
  rcases Nat.lt_or_ge g w.heap.size with h1 | h1
  · exact h1
  · rw [Array.getElem?_eq_none h1] at h; cases h

/-- What lay below the callee's blocks lies there still. -/
theorem row_keep {W w1 : World} {g : Nat} {o : Obj} (hb : Below W.heap.size W w1) (h : W.heap[g]? = some o) (hg : g < W.heap.size) : w1.heap[g]? = some o := (hb.block g hg).trans h

theorem bcell {W w1 : World} (hb : Below W.heap.size W w1) : (∀ b o, b < W.heap.size → w1.cell? ⟨b, o, none⟩ = W.cell? ⟨b, o, none⟩) ∧ (∀ b o, b < W.heap.size → w1.frozen? ⟨b, o, none⟩ = W.frozen? ⟨b, o, none⟩) :=
  ⟨fun b o h => hb.cell (p := ⟨b, o, none⟩) h, fun b o h => hb.frozen (p := ⟨b, o, none⟩) h⟩

/-- An old block behind a new one. -/
theorem row_alloc {w : World} {g : Nat} {o x : Obj} (h : w.heap[g]? = some o) : (w.alloc x).heap[g]? = some o := by
  have hlt : g < w.heap.size := by
    rcases Nat.lt_or_ge g w.heap.size with h1 | h1
    · exact h1
    · rw [Array.getElem?_eq_none h1] at h; cases h
  show (w.heap.push x)[g]? = some o
  rw [Array.getElem?_push, if_neg (Nat.ne_of_lt hlt)]; exact h
theorem row_new {w : World} {x : Obj} : (w.alloc x).heap[w.heap.size]? = some x := by
  show (w.heap.push x)[w.heap.size]? = some x
  simp
theorem row_set {w : World} {g i : Nat} {cs : Array Value} {t : TypeId} {v : Value} (h : w.heap[g]? = some (.cells cs t (0, 0))) : (w.setCell ⟨g, i, none⟩ v).heap[g]? = some (.cells (cs.setIfInBounds i v) t (0, 0)) :=
  heap_setCell_same w g i cs t v h
theorem row_set_other {w : World} {g i k : Nat} {o : Obj} {v : Value} (h : w.heap[k]? = some o) (hne : k ≠ g) : (w.setCell ⟨g, i, none⟩ v).heap[k]? = some o :=
  (heap_setCell_other w ⟨g, i, none⟩ k v hne).trans h
theorem row_put {w : World} {g : Nat} {cs cs' : Array Value} {t : TypeId} (h : w.heap[g]? = some (.cells cs t (0, 0))) : (w.setRow g cs').heap[g]? = some (.cells cs' t (0, 0)) := setRow_heap w g cs cs' t _ h
theorem row_put_other {w : World} {g k : Nat} {cs : Array Value} {o : Obj} (h : w.heap[k]? = some o) (hne : k ≠ g) : (w.setRow g cs).heap[k]? = some o := (setRow_other w g k cs hne).trans h
/-! ### New blocks, by their place -/
theorem row_at {w : World} {x : Obj} {i : Nat} (h : i = w.heap.size) : (w.alloc x).heap[i]? = some x := by subst h; exact row_new
theorem new2_0 (w : World) (A B : Obj) : ((w.alloc A).alloc B).heap[w.heap.size]? = some A := row_alloc (row_new)
theorem new2_1 (w : World) (A B : Obj) : ((w.alloc A).alloc B).heap[w.heap.size + 1]? = some B := row_at (by simp)
theorem new3_0 (w : World) (A B C : Obj) : (((w.alloc A).alloc B).alloc C).heap[w.heap.size]? = some A := row_alloc (row_alloc (row_new))
theorem new3_1 (w : World) (A B C : Obj) : (((w.alloc A).alloc B).alloc C).heap[w.heap.size + 1]? = some B := row_alloc (row_at (by simp))
theorem new3_2 (w : World) (A B C : Obj) : (((w.alloc A).alloc B).alloc C).heap[w.heap.size + 2]? = some C := row_at (by simp)
theorem new4_0 (w : World) (A B C D : Obj) : ((((w.alloc A).alloc B).alloc C).alloc D).heap[w.heap.size]? = some A := row_alloc (row_alloc (row_alloc (row_new)))
theorem new4_1 (w : World) (A B C D : Obj) : ((((w.alloc A).alloc B).alloc C).alloc D).heap[w.heap.size + 1]? = some B := row_alloc (row_alloc (row_at (by simp)))
theorem new4_2 (w : World) (A B C D : Obj) : ((((w.alloc A).alloc B).alloc C).alloc D).heap[w.heap.size + 2]? = some C := row_alloc (row_at (by simp))
theorem new4_3 (w : World) (A B C D : Obj) : ((((w.alloc A).alloc B).alloc C).alloc D).heap[w.heap.size + 3]? = some D := row_at (by simp)
theorem new5_0 (w : World) (A B C D E : Obj) : (((((w.alloc A).alloc B).alloc C).alloc D).alloc E).heap[w.heap.size]? = some A := row_alloc (row_alloc (row_alloc (row_alloc (row_new))))
theorem new5_1 (w : World) (A B C D E : Obj) : (((((w.alloc A).alloc B).alloc C).alloc D).alloc E).heap[w.heap.size + 1]? = some B := row_alloc (row_alloc (row_alloc (row_at (by simp))))
theorem new5_2 (w : World) (A B C D E : Obj) : (((((w.alloc A).alloc B).alloc C).alloc D).alloc E).heap[w.heap.size + 2]? = some C := row_alloc (row_alloc (row_at (by simp)))
theorem new5_3 (w : World) (A B C D E : Obj) : (((((w.alloc A).alloc B).alloc C).alloc D).alloc E).heap[w.heap.size + 3]? = some D := row_alloc (row_at (by simp))
theorem new5_4 (w : World) (A B C D E : Obj) : (((((w.alloc A).alloc B).alloc C).alloc D).alloc E).heap[w.heap.size + 4]? = some E := row_at (by simp)
theorem new6_0 (w : World) (A B C D E G : Obj) : ((((((w.alloc A).alloc B).alloc C).alloc D).alloc E).alloc G).heap[w.heap.size]? = some A := row_alloc (row_alloc (row_alloc (row_alloc (row_alloc (row_new)))))
theorem new6_1 (w : World) (A B C D E G : Obj) : ((((((w.alloc A).alloc B).alloc C).alloc D).alloc E).alloc G).heap[w.heap.size + 1]? = some B := row_alloc (row_alloc (row_alloc (row_alloc (row_at (by simp)))))
theorem new6_2 (w : World) (A B C D E G : Obj) : ((((((w.alloc A).alloc B).alloc C).alloc D).alloc E).alloc G).heap[w.heap.size + 2]? = some C := row_alloc (row_alloc (row_alloc (row_at (by simp))))
theorem new6_3 (w : World) (A B C D E G : Obj) : ((((((w.alloc A).alloc B).alloc C).alloc D).alloc E).alloc G).heap[w.heap.size + 3]? = some D := row_alloc (row_alloc (row_at (by simp)))
theorem new6_4 (w : World) (A B C D E G : Obj) : ((((((w.alloc A).alloc B).alloc C).alloc D).alloc E).alloc G).heap[w.heap.size + 4]? = some E := row_alloc (row_at (by simp))
theorem new6_5 (w : World) (A B C D E G : Obj) : ((((((w.alloc A).alloc B).alloc C).alloc D).alloc E).alloc G).heap[w.heap.size + 5]? = some G := row_at (by simp)
end Go.Proofs.Ytciakfhjjnmeeaa

namespace Go.Proofs.Ytciakfhjjnmeeaa
namespace Nt

/-- A prime. -/
def Pr (p : Nat) : Prop := 2 ≤ p ∧ ∀ d, d ∣ p → d = 1 ∨ d = p

theorem Pr.cop {p a : Nat} (h : Pr p) (ha : ¬ p ∣ a) : Nat.Coprime p a := by
  rcases h.2 _ (Nat.gcd_dvd_left p a) with e | e
  · exact e
  · exact absurd (e ▸ Nat.gcd_dvd_right p a) ha

theorem Pr.dvd_mul {p a b : Nat} (h : Pr p) (hd : p ∣ a * b) : p ∣ a ∨ p ∣ b := by
  by_cases ha : p ∣ a
  · exact Or.inl ha
  · exact Or.inr (Nat.Coprime.dvd_of_dvd_mul_left (h.cop ha) hd)

theorem Pr.dvd_pow {p a : Nat} (h : Pr p) : ∀ n, p ∣ a ^ n → p ∣ a
  | 0, hd => by
    rw [Nat.pow_zero] at hd
    have := Nat.le_of_dvd (by omega) hd
    have := h.1
    omega
  | n + 1, hd => by
    rw [Nat.pow_succ] at hd
    rcases h.dvd_mul hd with e | e
    · exact h.dvd_pow n e
    · exact e

theorem least_factor (n : Nat) (hn : 2 ≤ n) : ∀ k, (∃ d, 2 ≤ d ∧ d ≤ k ∧ d ∣ n) → ∃ r, 2 ≤ r ∧ r ∣ n ∧ ∀ d, 2 ≤ d → d ∣ n → r ≤ d
  | 0, h => by obtain ⟨d, h1, h2, _⟩ := h; omega
  | k + 1, h => by
    by_cases hk : ∃ d, 2 ≤ d ∧ d ≤ k ∧ d ∣ n
    · exact least_factor n hn k hk
    · obtain ⟨d, h1, h2, h3⟩ := h
      refine ⟨d, h1, h3, fun e he1 he2 => ?_⟩
      rcases Nat.lt_or_ge e d with hlt | hge
      · exact absurd ⟨e, he1, by omega, he2⟩ hk
      · exact hge

theorem factor_prime {n r : Nat} (h1 : 2 ≤ r) (h2 : r ∣ n) (h3 : ∀ d, 2 ≤ d → d ∣ n → r ≤ d) : Pr r := by
  refine ⟨h1, fun d hd => ?_⟩
  have hpos : 0 < d := Nat.pos_of_dvd_of_pos hd (by omega)
  have hle := Nat.le_of_dvd (by omega) hd
  by_cases hd1 : d = 1
  · exact Or.inl hd1
  · exact Or.inr (Nat.le_antisymm hle (h3 d (by omega) (Nat.dvd_trans hd h2)))

/-- A number that is no prime has a prime factor whose square is not above it. -/
theorem small_factor {n : Nat} (hn : 2 ≤ n) (h : ¬ Pr n) : ∃ r, Pr r ∧ r ∣ n ∧ r * r ≤ n := by
  obtain ⟨r, h1, h2, h3⟩ := least_factor n hn n ⟨n, hn, Nat.le_refl _, Nat.dvd_refl _⟩
  have hp := factor_prime h1 h2 h3
  refine ⟨r, hp, h2, ?_⟩
  obtain ⟨c, hc⟩ := h2
  have hc2 : 2 ≤ c := by
    rcases Nat.lt_or_ge c 2 with hlt | hge
    · have : c = 0 ∨ c = 1 := by omega
      rcases this with rfl | rfl
      · omega
      · rw [Nat.mul_one] at hc; subst hc; exact absurd hp h
    · exact hge
  have := h3 c hc2 ⟨r, by rw [hc, Nat.mul_comm]⟩
  calc r * r ≤ r * c := Nat.mul_le_mul_left r this
    _ = n := hc.symm

/-! ### Binomials, Fermat -/
def ch : Nat → Nat → Nat
  | _, 0 => 1
  | 0, _ + 1 => 0
  | n + 1, k + 1 => ch n k + ch n (k + 1)

theorem ch_zero (n : Nat) : ch n 0 = 1 := by cases n <;> rfl
theorem ch_succ (n k : Nat) : ch (n + 1) (k + 1) = ch n k + ch n (k + 1) := rfl

theorem ch_above : ∀ n k, n < k → ch n k = 0
  | _, 0, h => by omega
  | 0, k + 1, _ => rfl
  | n + 1, k + 1, h => by rw [ch_succ, ch_above n k (by omega), ch_above n (k + 1) (by omega)]

theorem ch_self : ∀ n, ch n n = 1
  | 0 => rfl
  | n + 1 => by rw [ch_succ, ch_self n, ch_above n (n + 1) (by omega)]

theorem ch_absorb : ∀ n k, (k + 1) * ch (n + 1) (k + 1) = (n + 1) * ch n k
  | 0, 0 => rfl
  | 0, k + 1 => by simp [ch]
  | n + 1, 0 => by
    have := ch_absorb n 0
    rw [ch_zero] at this
    rw [ch_succ, ch_zero]
    simp at *; omega
  | n + 1, k + 1 => by
    have h1 := ch_absorb n k
    have h2 := ch_absorb n (k + 1)
    have h3 : ch (n + 1) (k + 1) = ch n k + ch n (k + 1) := rfl
    rw [ch_succ (n + 1) (k + 1)]
    grind

def bs (a n : Nat) : Nat → Nat
  | 0 => 0
  | m + 1 => bs a n m + ch n m * a ^ m

theorem bs_succ (a n : Nat) : ∀ m, bs a (n + 1) (m + 1) = bs a n (m + 1) + a * bs a n m
  | 0 => by simp [bs, ch_zero]
  | m + 1 => by
    have h := bs_succ a n m
    have e1 : bs a (n + 1) (m + 1 + 1) = bs a (n + 1) (m + 1) + ch (n + 1) (m + 1) * a ^ (m + 1) := rfl
    have e2 : bs a n (m + 1 + 1) = bs a n (m + 1) + ch n (m + 1) * a ^ (m + 1) := rfl
    have e3 : bs a n (m + 1) = bs a n m + ch n m * a ^ m := rfl
    have e4 : a * (ch n m * a ^ m) = ch n m * a ^ (m + 1) := by rw [Nat.pow_succ]; grind
    rw [e1, e2, h, ch_succ, Nat.add_mul]
    have e5 : a * bs a n (m + 1) = a * bs a n m + ch n m * a ^ (m + 1) := by rw [e3, Nat.mul_add, e4]
    omega

theorem binom (a : Nat) : ∀ n, (a + 1) ^ n = bs a n (n + 1)
  | 0 => by simp [bs, ch]
  | n + 1 => by
    rw [Nat.pow_succ, binom a n, bs_succ]
    have e : bs a n (n + 1 + 1) = bs a n (n + 1) := by
      show bs a n (n + 1) + ch n (n + 1) * _ = _
      rw [ch_above n (n + 1) (by omega)]; simp
    rw [e]; grind

theorem ch_dvd {p : Nat} (h : Pr p) (k : Nat) (h1 : 1 ≤ k) (h2 : k < p) : p ∣ ch p k := by
  obtain ⟨n, rfl⟩ : ∃ n, p = n + 1 := ⟨p - 1, by have := h.1; omega⟩
  obtain ⟨j, rfl⟩ : ∃ j, k = j + 1 := ⟨k - 1, by omega⟩
  have e := ch_absorb n j
  have hd : n + 1 ∣ (j + 1) * ch (n + 1) (j + 1) := ⟨ch n j, e⟩
  rcases h.dvd_mul hd with h3 | h3
  · have := Nat.le_of_dvd (by omega) h3; omega
  · exact h3

theorem bs_mod {p : Nat} (h : Pr p) (a : Nat) : ∀ m, m + 1 ≤ p → bs a p (m + 1) % p = 1 % p
  | 0, _ => by simp [bs, ch_zero]
  | m + 1, hm => by
    show (bs a p (m + 1) + ch p (m + 1) * a ^ (m + 1)) % p = _
    obtain ⟨c, hc⟩ := ch_dvd h (m + 1) (by omega) (by omega)
    rw [hc, Nat.mul_assoc, Nat.add_mul_mod_self_left]
    exact bs_mod h a m (by omega)

/-- Fermat's little theorem. -/
theorem fermat {p : Nat} (h : Pr p) : ∀ a, a ^ p % p = a % p
  | 0 => by rw [Nat.zero_pow (by have := h.1; omega)]
  | a + 1 => by
    have hp := h.1
    have e1 : (a + 1) ^ p = bs a p p + a ^ p := by
      rw [binom a p]
      show bs a p p + ch p p * a ^ p = _
      rw [ch_self, Nat.one_mul]
    have e2 : bs a p p % p = 1 % p := by
      obtain ⟨m, rfl⟩ : ∃ m, p = m + 1 := ⟨p - 1, by omega⟩
      exact bs_mod h a m (Nat.le_refl _)
    rw [e1, Nat.add_mod, e2, fermat h a, ← Nat.add_mod, Nat.add_comm]

theorem mul_cancel {p : Nat} (h : Pr p) {b x y : Nat} (hb : ¬ p ∣ b) (he : b * x % p = b * y % p) : x % p = y % p := by
  have key : ∀ x y : Nat, x ≤ y → b * x % p = b * y % p → x % p = y % p := by
    intro x y hxy he
    have hd : p ∣ b * y - b * x := Nat.dvd_of_mod_eq_zero (Nat.sub_mod_eq_zero_of_mod_eq he.symm)
    rw [← Nat.mul_sub] at hd
    rcases h.dvd_mul hd with h1 | h1
    · exact absurd h1 hb
    · obtain ⟨c, hc⟩ := h1
      have : y = x + p * c := by omega
      rw [this, Nat.add_mul_mod_self_left]
  rcases Nat.le_total x y with hxy | hxy
  · exact key x y hxy he
  · exact (key y x hxy he.symm).symm

theorem fermat' {p : Nat} (h : Pr p) {a : Nat} (ha : ¬ p ∣ a) : a ^ (p - 1) % p = 1 % p := by
  have h1 := fermat h a
  have e : a ^ p = a * a ^ (p - 1) := by
    obtain ⟨m, rfl⟩ : ∃ m, p = m + 1 := ⟨p - 1, by have := h.1; omega⟩
    rw [Nat.pow_succ, Nat.mul_comm]; rfl
  rw [e] at h1
  exact mul_cancel h ha (by rw [h1, Nat.mul_one])

/-! ### Powers that are 1 -/
theorem pow_mod_one {r b m : Nat} (h : b ^ m % r = 1 % r) (k : Nat) : b ^ (m * k) % r = 1 % r := by
  rw [Nat.pow_mul, Nat.pow_mod, h, ← Nat.pow_mod, Nat.one_pow]

theorem pow_gcd {r b : Nat} (m n : Nat) : b ^ m % r = 1 % r → b ^ n % r = 1 % r → b ^ (Nat.gcd m n) % r = 1 % r := by
  induction m, n using Nat.gcd.induction with
  | H0 n => intro _ h; rw [Nat.gcd_zero_left]; exact h
  | H1 m n hm ih =>
    intro h1 h2
    rw [Nat.gcd_rec]
    refine ih ?_ h1
    have e : b ^ n = b ^ (m * (n / m)) * b ^ (n % m) := by rw [← Nat.pow_add, Nat.div_add_mod]
    rw [e, Nat.mul_mod, pow_mod_one h1, ← Nat.mul_mod, Nat.one_mul] at h2
    exact h2

/-- Pocklington's step: a prime factor r of n is 1 modulo q. -/
theorem pock (n q R a r : Nat) (hq : Pr q) (hn : n = q * R + 1) (h1 : a ^ (n - 1) % n = 1) (hg : Nat.gcd (a ^ R % n + (n - 1)) n = 1) (hr : Pr r) (hd : r ∣ n) : q ∣ r - 1 := by
  have hr2 := hr.1
  have hmod : ∀ x, x % n % r = x % r := fun x => Nat.mod_mod_of_dvd x hd
  have hn2 : 2 ≤ n := Nat.le_trans hr2 (Nat.le_of_dvd (by omega) hd)
  have hbq : (a ^ R) ^ q % r = 1 % r := by
    rw [← Nat.pow_mul, Nat.mul_comm R q]
    have : q * R = n - 1 := by omega
    rw [this, ← hmod, h1]
  have hb1 : ¬ a ^ R % r = 1 % r := by
    intro he
    have : r ∣ a ^ R % n + (n - 1) := by
      apply Nat.dvd_of_mod_eq_zero
      rw [Nat.add_mod, hmod, he, ← Nat.add_mod]
      have : 1 + (n - 1) = n := by omega
      rw [this]; exact Nat.mod_eq_zero_of_dvd hd
    have := Nat.dvd_gcd this hd
    rw [hg] at this
    have := Nat.le_of_dvd (by omega) this
    omega
  have hrb : ¬ r ∣ a ^ R := by
    intro he
    have hq2 := hq.1
    have : r ∣ (a ^ R) ^ q := Nat.dvd_trans he (by have := Nat.pow_dvd_pow (a ^ R) (show 1 ≤ q by omega); rwa [Nat.pow_one] at this)
    have e := Nat.mod_eq_zero_of_dvd this
    rw [hbq, Nat.mod_eq_of_lt (by omega)] at e
    omega
  have hf := fermat' hr hrb
  by_cases hqr : q ∣ r - 1
  · exact hqr
  · have hc : Nat.gcd q (r - 1) = 1 := hq.cop hqr
    have := pow_gcd q (r - 1) hbq hf
    rw [hc, Nat.pow_one] at this
    exact absurd this hb1

/-- The power modulo n, by squaring. -/
def pm : Nat → Nat → Nat → Nat → Nat
  | 0, _, _, n => 1 % n
  | f + 1, a, e, n => if e % 2 = 1 then pm f (a * a % n) (e / 2) n * a % n else pm f (a * a % n) (e / 2) n

theorem pm_eq (n : Nat) : ∀ f a e, e < 2 ^ f → pm f a e n = a ^ e % n
  | 0, a, e, h => by
    have : e = 0 := by simpa using h
    subst this; rfl
  | f + 1, a, e, h => by
    have h2 : e / 2 < 2 ^ f := by rw [Nat.pow_succ] at h; omega
    have ih := pm_eq n f (a * a % n) (e / 2) h2
    have e1 : (a * a % n) ^ (e / 2) % n = a ^ (2 * (e / 2)) % n := by
      rw [← Nat.pow_mod, Nat.pow_mul, Nat.pow_two]
    simp only [pm]
    split
    · rename_i ho
      rw [ih, e1, Nat.mod_mul_mod, ← Nat.pow_succ]
      have : 2 * (e / 2) + 1 = e := by omega
      show a ^ (2 * (e / 2) + 1) % n = _
      rw [this]
    · rename_i ho
      rw [ih, e1]
      have : 2 * (e / 2) = e := by omega
      rw [this]

/-- No divisor from k on, f numbers. -/
def noDiv (n : Nat) : Nat → Nat → Bool
  | 0, _ => true
  | f + 1, k => n % k != 0 && noDiv n f (k + 1)

theorem noDiv_spec (n : Nat) : ∀ f k, noDiv n f k = true → ∀ d, k ≤ d → d < k + f → ¬ d ∣ n
  | 0, _, _, d, h1, h2 => by omega
  | f + 1, k, h, d, h1, h2 => by
    simp only [noDiv, Bool.and_eq_true, bne_iff_ne] at h
    by_cases e : d = k
    · subst e; exact fun hd => h.1 (Nat.mod_eq_zero_of_dvd hd)
    · exact noDiv_spec n f (k + 1) h.2 d (by omega) (by omega)

/-- A small prime, by trial. -/
theorem trial (n s : Nat) (hn : 2 ≤ n) (hs : n < (s + 2) * (s + 2)) (h : noDiv n s 2 = true) : Pr n := by
  refine Classical.byContradiction fun hp => ?_
  obtain ⟨r, h1, h2, h3⟩ := small_factor hn hp
  have hr : r < s + 2 := by
    rcases Nat.lt_or_ge r (s + 2) with hlt | hge
    · exact hlt
    · have := Nat.mul_le_mul hge hge; omega
  exact noDiv_spec n s 2 h r h1.1 (by omega) h2

/-- Pocklington with one prime beyond the root. -/
theorem pock1 (n q R a f : Nat) (hq : Pr q) (hn : n = q * R + 1) (h2 : 2 ≤ n) (hs : n < q * q) (hf : n < 2 ^ f) (h1 : pm f a (n - 1) n = 1) (hg : Nat.gcd (pm f a R n + (n - 1)) n = 1) : Pr n := by
  have hR : R < 2 ^ f := by
    have := Nat.mul_le_mul_right R (show 1 ≤ q by have := hq.1; omega)
    omega
  rw [pm_eq _ _ _ _ (by omega)] at h1
  rw [pm_eq _ _ _ _ hR] at hg
  refine Classical.byContradiction fun hp => ?_
  obtain ⟨r, hr, hd, hs'⟩ := small_factor h2 hp
  have hd1 := pock n q R a r hq hn h1 hg hr hd
  have := hr.1
  have hle := Nat.le_of_dvd (by omega) hd1
  have := Nat.mul_le_mul (by omega : q ≤ r) (by omega : q ≤ r)
  omega

/-- Pocklington with two primes. -/
theorem pock2 (n q R q' R' a f : Nat) (hq : Pr q) (hq' : Pr q') (hne : q ≠ q') (hn : n = q * R + 1) (hn' : n = q' * R' + 1) (h2 : 2 ≤ n) (hs : n < (q * q') * (q * q')) (hf : n < 2 ^ f) (h1 : pm f a (n - 1) n = 1)
    (hg : Nat.gcd (pm f a R n + (n - 1)) n = 1) (hg' : Nat.gcd (pm f a R' n + (n - 1)) n = 1) : Pr n := by
  have hR : R < 2 ^ f := by
    have := Nat.mul_le_mul_right R (show 1 ≤ q by have := hq.1; omega)
    omega
  have hR' : R' < 2 ^ f := by
    have := Nat.mul_le_mul_right R' (show 1 ≤ q' by have := hq'.1; omega)
    omega
  rw [pm_eq _ _ _ _ (by omega)] at h1
  rw [pm_eq _ _ _ _ hR] at hg
  rw [pm_eq _ _ _ _ hR'] at hg'
  refine Classical.byContradiction fun hp => ?_
  obtain ⟨r, hr, hd, hs'⟩ := small_factor h2 hp
  have hd1 := pock n q R a r hq hn h1 hg hr hd
  have hd2 := pock n q' R' a r hq' hn' h1 hg' hr hd
  have hc : Nat.Coprime q q' := hq.cop (fun h => by
    rcases hq'.2 _ h with e | e
    · have := hq.1; omega
    · exact hne e)
  have hd3 := Nat.Coprime.mul_dvd_of_dvd_of_dvd hc hd1 hd2
  have := hr.1
  have hle := Nat.le_of_dvd (by omega) hd3
  have := Nat.mul_le_mul (by omega : q * q' ≤ r) (by omega : q * q' ≤ r)
  omega

end Nt
end Go.Proofs.Ytciakfhjjnmeeaa

namespace Go.Proofs.Ytciakfhjjnmeeaa
namespace Nt
set_option maxRecDepth 20000
set_option exponentiation.threshold 2000

theorem pr8574133 : Pr 8574133 := trial 8574133 2928 (by decide) (by decide) (by decide +kernel)
theorem pr7 : Pr 7 := trial 7 2 (by decide) (by decide) (by decide +kernel)
theorem pr1919519569386763 : Pr 1919519569386763 :=
  pock2 1919519569386763 8574133 223873314 7 274217081340966 2 51 pr8574133 pr7 (by decide) (by decide) (by decide) (by decide) (by decide) (by decide) (by decide +kernel) (by decide +kernel) (by decide +kernel)
theorem pr75707 : Pr 75707 := trial 75707 275 (by decide) (by decide) (by decide +kernel)
theorem pr75445702479781427272750846543864801 : Pr 75445702479781427272750846543864801 :=
  pock2 75445702479781427272750846543864801 1919519569386763 39304471641247389600 75707 996548568557483816196003626400 2 116 pr1919519569386763 pr75707 (by decide) (by decide) (by decide) (by decide) (by decide) (by decide) (by decide +kernel) (by decide +kernel) (by decide +kernel)
theorem pr353 : Pr 353 := trial 353 18 (by decide) (by decide) (by decide +kernel)
theorem pr74058212732561358302231226437062788676166966415465897661863160754340907 : Pr 74058212732561358302231226437062788676166966415465897661863160754340907 :=
  pock2 74058212732561358302231226437062788676166966415465897661863160754340907 75445702479781427272750846543864801 981609426360740691344999861639072106 353 209796636636151156663544550813209033076960244803019540118592523383402 2 236 pr75445702479781427272750846543864801 pr353 (by decide) (by decide) (by decide) (by decide) (by decide) (by decide) (by decide +kernel) (by decide +kernel) (by decide +kernel)
theorem pr57896044618658097711785492504343953926634992332820282019728792003956564819949 : Pr 57896044618658097711785492504343953926634992332820282019728792003956564819949 :=
  pock1 57896044618658097711785492504343953926634992332820282019728792003956564819949 74058212732561358302231226437062788676166966415465897661863160754340907 781764 2 255 pr74058212732561358302231226437062788676166966415465897661863160754340907 (by decide) (by decide) (by decide) (by decide) (by decide +kernel) (by decide +kernel)

/-- 2^255 - 19. -/
def P : Nat := 57896044618658097711785492504343953926634992332820282019728792003956564819949
theorem P_eq : P = 2 ^ 255 - 19 := by decide
theorem P_prime : Pr P := pr57896044618658097711785492504343953926634992332820282019728792003956564819949
theorem P_pos : 0 < P := by decide
instance : NeZero P := ⟨by decide⟩

/-- The numbers modulo 2^255 - 19. -/
abbrev F := Fin P

theorem F.ext {a b : F} (h : a.val = b.val) : a = b := Fin.ext h
theorem val_add (a b : F) : (a + b).val = (a.val + b.val) % P := Fin.val_add a b
theorem val_mul (a b : F) : (a * b).val = (a.val * b.val) % P := Fin.val_mul a b
theorem val_one : (1 : F).val = 1 := by decide
theorem val_zero : (0 : F).val = 0 := rfl
theorem val_lt (a : F) : a.val < P := a.isLt
theorem pow_succ (a : F) (n : Nat) : a ^ (n + 1) = a ^ n * a := by grind
theorem pow_zero (a : F) : a ^ 0 = 1 := by grind

theorem val_pow (a : F) : ∀ n, (a ^ n).val = a.val ^ n % P
  | 0 => by rw [pow_zero, val_one, Nat.pow_zero]; decide
  | n + 1 => by rw [pow_succ, val_mul, val_pow a n, Nat.pow_succ, Nat.mod_mul_mod]

theorem frob (a : F) : a ^ P = a := F.ext (by rw [val_pow, fermat P_prime, Nat.mod_eq_of_lt a.isLt])

theorem val_ne_zero {a : F} (h : a ≠ 0) : ¬ P ∣ a.val := fun hd => by
  have := Nat.mod_eq_zero_of_dvd hd
  rw [Nat.mod_eq_of_lt a.isLt] at this
  exact h (F.ext this)

theorem mul_eq_zero {a b : F} (h : a * b = 0) : a = 0 ∨ b = 0 := by
  have h1 : P ∣ a.val * b.val := Nat.dvd_of_mod_eq_zero (by rw [← val_mul, h]; rfl)
  by_cases ha : a = 0
  · exact Or.inl ha
  · by_cases hb : b = 0
    · exact Or.inr hb
    · rcases P_prime.dvd_mul h1 with h2 | h2
      · exact absurd h2 (val_ne_zero ha)
      · exact absurd h2 (val_ne_zero hb)

/-- 1 over a; 0 of 0. -/
def inv (a : F) : F := a ^ (P - 2)

theorem inv_zero : inv 0 = 0 := F.ext (by
  rw [inv, val_pow, val_zero, Nat.zero_pow (by decide)]; rfl)

theorem mul_inv {a : F} (h : a ≠ 0) : a * inv a = 1 := F.ext (by
  rw [val_mul, inv, val_pow, Nat.mul_mod_mod, Nat.mul_comm, ← Nat.pow_succ]
  have : (P - 2).succ = P - 1 := by decide
  rw [this, fermat' P_prime (val_ne_zero h), val_one]; decide)

theorem inv_mul {a : F} (h : a ≠ 0) : inv a * a = 1 := by have := mul_inv h; grind

theorem one_ne_zero : (1 : F) ≠ 0 := by decide

theorem inv_ne_zero {a : F} (h : a ≠ 0) : inv a ≠ 0 := fun e => by
  have := mul_inv h
  rw [e] at this
  exact one_ne_zero (by grind)

theorem mul_left_cancel {a b c : F} (ha : a ≠ 0) (h : a * b = a * c) : b = c := by
  have h1 : a * (b - c) = 0 := by grind
  rcases mul_eq_zero h1 with e | e
  · exact absurd e ha
  · grind

theorem inv_of_mul {a b : F} (h : a * b = 1) : inv a = b := by
  have ha : a ≠ 0 := fun e => by subst e; exact one_ne_zero (by grind)
  exact mul_left_cancel ha (by rw [mul_inv ha, h])

theorem inv_inv (a : F) : inv (inv a) = a := by
  by_cases h : a = 0
  · subst h; rw [inv_zero, inv_zero]
  · exact inv_of_mul (inv_mul h)

theorem inv_mul_distrib (a b : F) : inv (a * b) = inv a * inv b := by
  by_cases ha : a = 0
  · subst ha; rw [inv_zero]; have : (0 : F) * b = 0 := by grind
    rw [this, inv_zero]; grind
  · by_cases hb : b = 0
    · subst hb; rw [inv_zero]; have : a * (0 : F) = 0 := by grind
      rw [this, inv_zero]; grind
    · have h1 := mul_inv ha
      have h2 := mul_inv hb
      exact inv_of_mul (by grind)

end Nt
end Go.Proofs.Ytciakfhjjnmeeaa

namespace Go.Proofs.Ytciakfhjjnmeeaa
open Nt

/-- 2^255 - 19, as an integer. -/
abbrev PI : Int := 57896044618658097711785492504343953926634992332820282019728792003956564819949
theorem PI_eq : ((P : Nat) : Int) = PI := by decide

/-- Five words: each a word, their sum the number n. -/
def Wd (l0 l1 l2 l3 l4 : Int) (n : F) : Prop :=
  (0 ≤ l0 ∧ l0 < 18446744073709551616) ∧ (0 ≤ l1 ∧ l1 < 18446744073709551616) ∧ (0 ≤ l2 ∧ l2 < 18446744073709551616) ∧ (0 ≤ l3 ∧ l3 < 18446744073709551616) ∧ (0 ≤ l4 ∧ l4 < 18446744073709551616) ∧
  (l0 + 2251799813685248 * l1 + 5070602400912917605986812821504 * l2 + 11417981541647679048466287755595961091061972992 * l3 + 25711008708143844408671393477458601640355247900524685364822016 * l4) % PI = (n.val : Int)

/-- Five limbs below 2^52. -/
def El (l0 l1 l2 l3 l4 : Int) (n : F) : Prop :=
  (0 ≤ l0 ∧ l0 < 4503599627370496) ∧ (0 ≤ l1 ∧ l1 < 4503599627370496) ∧ (0 ≤ l2 ∧ l2 < 4503599627370496) ∧ (0 ≤ l3 ∧ l3 < 4503599627370496) ∧ (0 ≤ l4 ∧ l4 < 4503599627370496) ∧
  (l0 + 2251799813685248 * l1 + 5070602400912917605986812821504 * l2 + 11417981541647679048466287755595961091061972992 * l3 + 25711008708143844408671393477458601640355247900524685364822016 * l4) % PI = (n.val : Int)

theorem El.wd {a b c d e : Int} {n : F} (h : El a b c d e n) : Wd a b c d e n := by
  obtain ⟨h0, h1, h2, h3, h4, h5⟩ := h
  exact ⟨by omega, by omega, by omega, by omega, by omega, h5⟩

theorem and51 (x : Int) (h0 : 0 ≤ x) (h1 : x < 18446744073709551616) : bits .and .u64 x 2251799813685247 = x % 2251799813685248 := by go_bits2

theorem wrap_small (x : Int) (h0 : 0 ≤ x) (h1 : x < 18446744073709551616) : IntKind.u64.wrap x = x := by rw [IntKind.wrap_u64]; omega

theorem carry_el {l0 l1 l2 l3 l4 : Int} {n : F} (h : Wd l0 l1 l2 l3 l4 n) :
    El (IntKind.u64.wrap (bits .and .u64 l0 2251799813685247 + 19 * (l4 / 2251799813685248))) (IntKind.u64.wrap (bits .and .u64 l1 2251799813685247 + l0 / 2251799813685248))
      (IntKind.u64.wrap (bits .and .u64 l2 2251799813685247 + l1 / 2251799813685248)) (IntKind.u64.wrap (bits .and .u64 l3 2251799813685247 + l2 / 2251799813685248))
      (IntKind.u64.wrap (bits .and .u64 l4 2251799813685247 + l3 / 2251799813685248)) n := by
  obtain ⟨⟨a0, b0⟩, ⟨a1, b1⟩, ⟨a2, b2⟩, ⟨a3, b3⟩, ⟨a4, b4⟩, hs⟩ := h
  rw [and51 l0 a0 b0, and51 l1 a1 b1, and51 l2 a2 b2, and51 l3 a3 b3, and51 l4 a4 b4]
  rw [wrap_small _ (by omega) (by omega), wrap_small _ (by omega) (by omega), wrap_small _ (by omega) (by omega), wrap_small _ (by omega) (by omega), wrap_small _ (by omega) (by omega)]
  refine ⟨by omega, by omega, by omega, by omega, by omega, ?_⟩
  rw [← hs]
  have key : (l0 % 2251799813685248 + 19 * (l4 / 2251799813685248)) + 2251799813685248 * (l1 % 2251799813685248 + l0 / 2251799813685248) + 5070602400912917605986812821504 * (l2 % 2251799813685248 + l1 / 2251799813685248) + 11417981541647679048466287755595961091061972992 * (l3 % 2251799813685248 + l2 / 2251799813685248) + 25711008708143844408671393477458601640355247900524685364822016 * (l4 % 2251799813685248 + l3 / 2251799813685248)
      = (l0 + 2251799813685248 * l1 + 5070602400912917605986812821504 * l2 + 11417981541647679048466287755595961091061972992 * l3 + 25711008708143844408671393477458601640355247900524685364822016 * l4) + 57896044618658097711785492504343953926634992332820282019728792003956564819949 * (-(l4 / 2251799813685248)) := by
    have e0 := Int.mul_ediv_add_emod l0 2251799813685248
    have e1 := Int.mul_ediv_add_emod l1 2251799813685248
    have e2 := Int.mul_ediv_add_emod l2 2251799813685248
    have e3 := Int.mul_ediv_add_emod l3 2251799813685248
    have e4 := Int.mul_ediv_add_emod l4 2251799813685248
    omega
  rw [key, Int.add_mul_emod_self_left]

/-- Limbs that were carried once out of limbs below 2^52. -/
def Tight (l0 l1 l2 l3 l4 : Int) (n : F) : Prop :=
  El l0 l1 l2 l3 l4 n ∧ l0 < 2251799813685286 ∧ l1 < 2251799813685250 ∧ l2 < 2251799813685250 ∧ l3 < 2251799813685250 ∧ l4 < 2251799813685250

theorem carry_tight {l0 l1 l2 l3 l4 : Int} {n : F} (h : El l0 l1 l2 l3 l4 n) :
    Tight (IntKind.u64.wrap (bits .and .u64 l0 2251799813685247 + 19 * (l4 / 2251799813685248))) (IntKind.u64.wrap (bits .and .u64 l1 2251799813685247 + l0 / 2251799813685248))
      (IntKind.u64.wrap (bits .and .u64 l2 2251799813685247 + l1 / 2251799813685248)) (IntKind.u64.wrap (bits .and .u64 l3 2251799813685247 + l2 / 2251799813685248))
      (IntKind.u64.wrap (bits .and .u64 l4 2251799813685247 + l3 / 2251799813685248)) n := by
  refine ⟨carry_el h.wd, ?_⟩
  obtain ⟨⟨a0, b0⟩, ⟨a1, b1⟩, ⟨a2, b2⟩, ⟨a3, b3⟩, ⟨a4, b4⟩, hs⟩ := h
  rw [and51 l0 a0 (by omega), and51 l1 a1 (by omega), and51 l2 a2 (by omega), and51 l3 a3 (by omega), and51 l4 a4 (by omega)]
  rw [wrap_small _ (by omega) (by omega), wrap_small _ (by omega) (by omega), wrap_small _ (by omega) (by omega), wrap_small _ (by omega) (by omega), wrap_small _ (by omega) (by omega)]
  omega

/-- Five limbs of 51 bits that are the number n, and not only modulo 2^255 - 19. -/
def Can (l0 l1 l2 l3 l4 : Int) (n : F) : Prop :=
  (0 ≤ l0 ∧ l0 < 2251799813685248) ∧ (0 ≤ l1 ∧ l1 < 2251799813685248) ∧ (0 ≤ l2 ∧ l2 < 2251799813685248) ∧ (0 ≤ l3 ∧ l3 < 2251799813685248) ∧ (0 ≤ l4 ∧ l4 < 2251799813685248) ∧
  l0 + 2251799813685248 * l1 + 5070602400912917605986812821504 * l2 + 11417981541647679048466287755595961091061972992 * l3 + 25711008708143844408671393477458601640355247900524685364822016 * l4 = (n.val : Int)

theorem least_fin {V S R q c n : Int} (hs : V % 57896044618658097711785492504343953926634992332820282019728792003956564819949 = n) (hV : 0 ≤ V ∧ V < 115792089237316195423570985008687907853269984665640564039457584007913129639868)
    (hS : V + 19 = S + 57896044618658097711785492504343953926634992332820282019728792003956564819968 * q) (hS' : 0 ≤ S ∧ S < 57896044618658097711785492504343953926634992332820282019728792003956564819968)
    (hR : V + 19 * q = R + 57896044618658097711785492504343953926634992332820282019728792003956564819968 * c) (hR' : 0 ≤ R ∧ R < 57896044618658097711785492504343953926634992332820282019728792003956564819968)
    (hq : q = 0 ∨ q = 1) : R = n := by
  rcases hq with rfl | rfl
  · have : c = 0 := by omega
    subst this
    omega
  · have : c = 1 := by omega
    subst this
    omega

/-- A step of a carry: what stays, what goes up. -/
theorem part51 (x : Int) : ∃ r, x = 2251799813685248 * (x / 2251799813685248) + r ∧ x % 2251799813685248 = r ∧ 0 ≤ r ∧ r < 2251799813685248 :=
  ⟨x % 2251799813685248, by omega, rfl, by omega, by omega⟩

theorem digits_bound {r0 r1 r2 r3 r4 : Int} (h0 : 0 ≤ r0 ∧ r0 < 2251799813685248) (h1 : 0 ≤ r1 ∧ r1 < 2251799813685248) (h2 : 0 ≤ r2 ∧ r2 < 2251799813685248) (h3 : 0 ≤ r3 ∧ r3 < 2251799813685248) (h4 : 0 ≤ r4 ∧ r4 < 2251799813685248) :
    0 ≤ r0 + 2251799813685248 * r1 + 5070602400912917605986812821504 * r2 + 11417981541647679048466287755595961091061972992 * r3 + 25711008708143844408671393477458601640355247900524685364822016 * r4 ∧
    r0 + 2251799813685248 * r1 + 5070602400912917605986812821504 * r2 + 11417981541647679048466287755595961091061972992 * r3 + 25711008708143844408671393477458601640355247900524685364822016 * r4 < 57896044618658097711785492504343953926634992332820282019728792003956564819968 := by
  omega

theorem chain51 {a m0 m1 m2 m3 m4 c0 c1 c2 c3 c4 r0 r1 r2 r3 r4 : Int} (e0 : m0 + a = 2251799813685248 * c0 + r0) (e1 : m1 + c0 = 2251799813685248 * c1 + r1) (e2 : m2 + c1 = 2251799813685248 * c2 + r2)
    (e3 : m3 + c2 = 2251799813685248 * c3 + r3) (e4 : m4 + c3 = 2251799813685248 * c4 + r4) :
    (m0 + 2251799813685248 * m1 + 5070602400912917605986812821504 * m2 + 11417981541647679048466287755595961091061972992 * m3 + 25711008708143844408671393477458601640355247900524685364822016 * m4) + a =
    (r0 + 2251799813685248 * r1 + 5070602400912917605986812821504 * r2 + 11417981541647679048466287755595961091061972992 * r3 + 25711008708143844408671393477458601640355247900524685364822016 * r4) + 57896044618658097711785492504343953926634992332820282019728792003956564819968 * c4 := by
  have f0 : r0 = m0 + a - 2251799813685248 * c0 := by omega
  have f1 : r1 = m1 + c0 - 2251799813685248 * c1 := by omega
  have f2 : r2 = m2 + c1 - 2251799813685248 * c2 := by omega
  have f3 : r3 = m3 + c2 - 2251799813685248 * c3 := by omega
  have f4 : r4 = m4 + c3 - 2251799813685248 * c4 := by omega
  clear e0 e1 e2 e3 e4
  subst f0 f1 f2 f3 f4
  omega

theorem least_can {m0 m1 m2 m3 m4 q : Int} {n : F} (h : Tight m0 m1 m2 m3 m4 n)
    (hq : ((((((19 + m0) / 2251799813685248 + m1) / 2251799813685248 + m2) / 2251799813685248 + m3) / 2251799813685248 + m4) / 2251799813685248) = q) :
    Can (bits .and .u64 (m0 + 19 * q) 2251799813685247) (bits .and .u64 (m1 + (m0 + 19 * q) / 2251799813685248) 2251799813685247)
      (bits .and .u64 (m2 + (m1 + (m0 + 19 * q) / 2251799813685248) / 2251799813685248) 2251799813685247)
      (bits .and .u64 (m3 + (m2 + (m1 + (m0 + 19 * q) / 2251799813685248) / 2251799813685248) / 2251799813685248) 2251799813685247)
      (bits .and .u64 (m4 + (m3 + (m2 + (m1 + (m0 + 19 * q) / 2251799813685248) / 2251799813685248) / 2251799813685248) / 2251799813685248) 2251799813685247) n := by
  obtain ⟨⟨⟨a0, b0⟩, ⟨a1, b1⟩, ⟨a2, b2⟩, ⟨a3, b3⟩, ⟨a4, b4⟩, hs⟩, t0, t1, t2, t3, t4⟩ := h
  simp only [PI] at hs
  have k0 : 0 ≤ (19 + m0) / 2251799813685248 ∧ (19 + m0) / 2251799813685248 ≤ 1 := by omega
  generalize hd0 : (19 + m0) / 2251799813685248 = d0 at *
  have k1 : 0 ≤ (d0 + m1) / 2251799813685248 ∧ (d0 + m1) / 2251799813685248 ≤ 1 := by omega
  generalize hd1 : (d0 + m1) / 2251799813685248 = d1 at *
  have k2 : 0 ≤ (d1 + m2) / 2251799813685248 ∧ (d1 + m2) / 2251799813685248 ≤ 1 := by omega
  generalize hd2 : (d1 + m2) / 2251799813685248 = d2 at *
  have k3 : 0 ≤ (d2 + m3) / 2251799813685248 ∧ (d2 + m3) / 2251799813685248 ≤ 1 := by omega
  generalize hd3 : (d2 + m3) / 2251799813685248 = d3 at *
  have k4 : 0 ≤ q ∧ q ≤ 1 := by omega
  have l0 : 0 ≤ (m0 + 19 * q) / 2251799813685248 ∧ (m0 + 19 * q) / 2251799813685248 ≤ 1 := by omega
  have and0 := and51 (m0 + 19 * q) (by omega) (by omega)
  generalize hc0 : (m0 + 19 * q) / 2251799813685248 = c0 at *
  have l1 : 0 ≤ (m1 + c0) / 2251799813685248 ∧ (m1 + c0) / 2251799813685248 ≤ 1 := by omega
  have and1 := and51 (m1 + c0) (by omega) (by omega)
  generalize hc1 : (m1 + c0) / 2251799813685248 = c1 at *
  have l2 : 0 ≤ (m2 + c1) / 2251799813685248 ∧ (m2 + c1) / 2251799813685248 ≤ 1 := by omega
  have and2 := and51 (m2 + c1) (by omega) (by omega)
  generalize hc2 : (m2 + c1) / 2251799813685248 = c2 at *
  have l3 : 0 ≤ (m3 + c2) / 2251799813685248 ∧ (m3 + c2) / 2251799813685248 ≤ 1 := by omega
  have and3 := and51 (m3 + c2) (by omega) (by omega)
  generalize hc3 : (m3 + c2) / 2251799813685248 = c3 at *
  have and4 := and51 (m4 + c3) (by omega) (by omega)
  rw [and0, and1, and2, and3, and4]
  clear and0 and1 and2 and3 and4
  obtain ⟨s0, x0, _, y0⟩ := part51 (19 + m0)
  obtain ⟨s1, x1, _, y1⟩ := part51 (d0 + m1)
  obtain ⟨s2, x2, _, y2⟩ := part51 (d1 + m2)
  obtain ⟨s3, x3, _, y3⟩ := part51 (d2 + m3)
  obtain ⟨s4, x4, _, y4⟩ := part51 (d3 + m4)
  obtain ⟨r0, u0, w0, z0⟩ := part51 (m0 + 19 * q)
  obtain ⟨r1, u1, w1, z1⟩ := part51 (m1 + c0)
  obtain ⟨r2, u2, w2, z2⟩ := part51 (m2 + c1)
  obtain ⟨r3, u3, w3, z3⟩ := part51 (m3 + c2)
  obtain ⟨r4, u4, w4, z4⟩ := part51 (m4 + c3)
  rw [w0, w1, w2, w3, w4]
  rw [hd0] at x0
  rw [hd1] at x1
  rw [hd2] at x2
  rw [hd3] at x3
  rw [hq] at x4
  rw [hc0] at u0
  rw [hc1] at u1
  rw [hc2] at u2
  rw [hc3] at u3
  have hS := chain51 (a := 19) (by omega : m0 + 19 = 2251799813685248 * d0 + s0) (by omega : m1 + d0 = 2251799813685248 * d1 + s1) (by omega : m2 + d1 = 2251799813685248 * d2 + s2) (by omega : m3 + d2 = 2251799813685248 * d3 + s3) (by omega : m4 + d3 = 2251799813685248 * q + s4)
  have hR := chain51 (a := 19 * q) u0 u1 u2 u3 u4
  refine ⟨z0, z1, z2, z3, z4, ?_⟩
  have hV := digits_bound (r0 := m0 - 38) (r1 := m1 - 2) (r2 := m2 - 2) (r3 := m3 - 2) (r4 := m4 - 2)
  exact least_fin hs (by clear hs hS hR hV; omega) hS (digits_bound y0 y1 y2 y3 y4) hR (digits_bound z0 z1 z2 z3 z4) (by omega)

/-! ### Bytes -/
/-- The number of bytes, the lowest first. -/
def num : List Int → Int
  | [] => 0
  | b :: r => b + 256 * num r

/-- Bytes. -/
def Byt (l : List Int) : Prop := ∀ x ∈ l, 0 ≤ x ∧ x < 256

theorem num_bound : ∀ l : List Int, Byt l → 0 ≤ num l ∧ num l < 256 ^ l.length
  | [], _ => by simp [num]
  | b :: r, h => by
    have hb := h b (by simp)
    have hr := num_bound r (fun x hx => h x (by simp [hx]))
    simp only [num, List.length_cons, Int.pow_succ]
    omega

theorem num_append (a b : List Int) : num (a ++ b) = num a + 256 ^ a.length * num b := by
  induction a with
  | nil => simp [num]
  | cons x r ih => simp only [List.cons_append, num, ih, List.length_cons, Int.pow_succ]; grind

/-- The element at a place. -/
def nth (l : List Int) (j : Nat) : Int := l.getD j 0

theorem nth_get {l : List Int} {j : Nat} (h : j < l.length) : nth l j = l[j] := by simp [nth, h]

theorem Byt.nth {l : List Int} (h : Byt l) (j : Nat) : 0 ≤ nth l j ∧ nth l j < 256 := by
  by_cases hj : j < l.length
  · rw [nth_get hj]; exact h _ (List.getElem_mem hj)
  · simp [Go.Proofs.Ytciakfhjjnmeeaa.nth, List.getElem?_eq_none (by omega : l.length ≤ j)]

theorem Byt.drop {l : List Int} (h : Byt l) (k : Nat) : Byt (l.drop k) := fun x hx => h x (List.mem_of_mem_drop hx)
theorem Byt.take {l : List Int} (h : Byt l) (k : Nat) : Byt (l.take k) := fun x hx => h x (List.mem_of_mem_take hx)

theorem num_drop (l : List Int) (k : Nat) (h : k < l.length) : num (l.drop k) = nth l k + 256 * num (l.drop (k + 1)) := by
  rw [List.drop_eq_getElem_cons h, nth_get h]
  rfl

theorem num_drop_bound {l : List Int} (h : Byt l) (k n : Nat) (hn : l.length ≤ k + n) : 0 ≤ num (l.drop k) ∧ num (l.drop k) < 256 ^ n := by
  have h1 := num_bound _ (h.drop k)
  have h2 : (256 : Int) ^ (l.drop k).length ≤ 256 ^ n := by
    have : (256 : Nat) ^ (l.drop k).length ≤ 256 ^ n := Nat.pow_le_pow_right (by omega) (by rw [List.length_drop]; omega)
    have h3 : ((256 ^ (l.drop k).length : Nat) : Int) ≤ ((256 ^ n : Nat) : Int) := Int.ofNat_le.2 this
    rwa [Int.natCast_pow, Int.natCast_pow] at h3
  omega

/-- The values of bytes. -/
def vals (l : List Int) : Array Value := (l.map (Value.int .u8)).toArray

theorem num_mid (l : List Int) (o n : Nat) (ho : o + n ≤ l.length) (h : Byt l) : num ((l.drop o).take n) = num l / 256 ^ o % 256 ^ n := by
  have e1 : l = l.take o ++ ((l.drop o).take n ++ l.drop (o + n)) := by
    rw [← List.drop_drop, List.take_append_drop, List.take_append_drop]
  have e2 : num l = num (l.take o) + 256 ^ o * (num ((l.drop o).take n) + 256 ^ n * num (l.drop (o + n))) := by
    conv => lhs; rw [e1]
    rw [num_append, num_append, List.length_take, List.length_take, List.length_drop]
    have a1 : min o l.length = o := by omega
    have a2 : min n (l.length - o) = n := by omega
    rw [a1, a2]
  have b1 := num_bound _ (h.take o)
  have b2 := num_bound _ ((h.drop o).take n)
  have c1 : (l.take o).length = o := by rw [List.length_take]; omega
  have c2 : ((l.drop o).take n).length = n := by rw [List.length_take, List.length_drop]; omega
  rw [c1] at b1
  rw [c2] at b2
  have p1 : (0 : Int) < 256 ^ o := Int.pow_pos (by omega)
  rw [e2, Int.add_mul_ediv_left _ _ (by omega), Int.ediv_eq_zero_of_lt b1.1 b1.2, Int.zero_add, Int.add_mul_emod_self_left, Int.emod_eq_of_lt b2.1 b2.2]

/-- The five limbs of 32 bytes. -/
theorem limbs_wd (N : Int) (h0 : 0 ≤ N) (h1 : N < 115792089237316195423570985008687907853269984665640564039457584007913129639936) :
    Wd (N / 256 ^ 0 % 256 ^ 8 % 2251799813685248) (N / 256 ^ 6 % 256 ^ 8 / 8 % 2251799813685248) (N / 256 ^ 12 % 256 ^ 8 / 64 % 2251799813685248) (N / 256 ^ 19 % 256 ^ 8 / 2 % 2251799813685248) (N / 256 ^ 24 % 256 ^ 8 / 4096 % 2251799813685248)
      (Fin.ofNat P (N % 57896044618658097711785492504343953926634992332820282019728792003956564819968).toNat) := by
  refine ⟨by omega, by omega, by omega, by omega, by omega, ?_⟩
  have key : N / 256 ^ 0 % 256 ^ 8 % 2251799813685248 + 2251799813685248 * (N / 256 ^ 6 % 256 ^ 8 / 8 % 2251799813685248) + 5070602400912917605986812821504 * (N / 256 ^ 12 % 256 ^ 8 / 64 % 2251799813685248) + 11417981541647679048466287755595961091061972992 * (N / 256 ^ 19 % 256 ^ 8 / 2 % 2251799813685248) + 25711008708143844408671393477458601640355247900524685364822016 * (N / 256 ^ 24 % 256 ^ 8 / 4096 % 2251799813685248)
      = N % 57896044618658097711785492504343953926634992332820282019728792003956564819968 := by
    omega
  rw [key]
  show _ = (((N % 57896044618658097711785492504343953926634992332820282019728792003956564819968).toNat % P : Nat) : Int)
  rw [Int.natCast_emod, PI_eq, Int.toNat_of_nonneg (by omega)]

/-- Byte j of a number. -/
def byteOf (V j : Nat) : Nat := V / 256 ^ j % 256
/-- The 32 lowest bytes of a number. -/
def bytesN (V : Nat) : List Int := (List.range 32).map fun j => (byteOf V j : Int)

theorem bytesN_len (V : Nat) : (bytesN V).length = 32 := by simp [bytesN]
theorem bytesN_byt (V : Nat) : Byt (bytesN V) := fun x hx => by
  simp only [bytesN, List.mem_map] at hx
  obtain ⟨j, _, rfl⟩ := hx
  simp only [byteOf]; omega
theorem nth_bytesN (V j : Nat) (h : j < 32) : nth (bytesN V) j = (byteOf V j : Int) := by
  rw [nth_get (by rw [bytesN_len]; exact h)]; simp [bytesN]

theorem byteOf_testBit (V j i : Nat) : (byteOf V j).testBit i = (decide (i < 8) && V.testBit (8 * j + i)) := by
  have e : (256 : Nat) ^ j = 2 ^ (8 * j) := by rw [Nat.pow_mul]
  have e2 : (256 : Nat) = 2 ^ 8 := rfl
  rw [byteOf, e]
  conv => lhs; rw [e2]
  rw [Nat.testBit_mod_two_pow, Nat.testBit_div_two_pow, Nat.add_comm]

/-- One bit more. -/
theorem byte_step (V k j : Nat) : byteOf (V % 2 ^ (k + 1)) j = if j = k / 8 then byteOf (V % 2 ^ k) j ||| (V / 2 ^ k % 2) * 2 ^ (k % 8) else byteOf (V % 2 ^ k) j := by
  apply Nat.eq_of_testBit_eq
  intro i
  have hbit : ∀ i, (V / 2 ^ k % 2 * 2 ^ (k % 8)).testBit i = (decide (i = k % 8) && V.testBit k) := by
    intro i
    rw [Nat.mul_comm, Nat.testBit_two_pow_mul]
    have e : V / 2 ^ k % 2 = V / 2 ^ k % 2 ^ 1 := rfl
    rw [e, Nat.testBit_mod_two_pow, Nat.testBit_div_two_pow]
    by_cases h1 : i = k % 8
    · subst h1; simp
    · by_cases h2 : k % 8 ≤ i
      · have : ¬ (i - k % 8 < 1) := by omega
        simp [h1, this]
      · simp [h1, h2]
  split
  · rename_i hj
    rw [Nat.testBit_or, byteOf_testBit, byteOf_testBit, Nat.testBit_mod_two_pow, Nat.testBit_mod_two_pow, hbit]
    by_cases h8 : i < 8
    · by_cases h1 : i = k % 8
      · subst h1
        have e : 8 * j + k % 8 = k := by omega
        simp [e, h8]
      · have e : (8 * j + i < k + 1) = (8 * j + i < k) := by
          apply propext; constructor <;> intro _ <;> omega
        simp [h1, e]
    · have h1 : ¬ i = k % 8 := by omega
      simp [h8, h1]
  · rename_i hj
    rw [byteOf_testBit, byteOf_testBit, Nat.testBit_mod_two_pow, Nat.testBit_mod_two_pow]
    by_cases h8 : i < 8
    · have e : (8 * j + i < k + 1) = (8 * j + i < k) := by
        apply propext; constructor <;> intro _ <;> omega
      simp [e]
    · simp [h8]

theorem bytesN_step (V k : Nat) : bytesN (V % 2 ^ (k + 1)) = (bytesN (V % 2 ^ k)).set (k / 8) ((byteOf (V % 2 ^ k) (k / 8) ||| (V / 2 ^ k % 2) * 2 ^ (k % 8) : Nat) : Int) := by
  apply List.ext_getElem
  · simp [bytesN]
  · intro j h1 h2
    rw [List.getElem_set]
    simp only [bytesN, List.getElem_map, List.getElem_range, byte_step V k j]
    by_cases hj : j = k / 8
    · rw [if_pos hj, if_pos hj.symm, hj]
    · rw [if_neg hj, if_neg (fun e => hj e.symm)]

/-- The number of 32 bytes, without the highest bit. -/
def numF (l : List Int) : F := Fin.ofNat P (num l % 57896044618658097711785492504343953926634992332820282019728792003956564819968).toNat

theorem of_limbs (l : List Int) (hl : l.length = 32) (hb : Byt l) :
    Wd (bits .and .u64 (num (l.take 8)) 2251799813685247) (bits .and .u64 (num ((l.drop 6).take 8) / 8) 2251799813685247) (bits .and .u64 (num ((l.drop 12).take 8) / 64) 2251799813685247)
      (bits .and .u64 (num ((l.drop 19).take 8) / 2) 2251799813685247) (bits .and .u64 (num ((l.drop 24).take 8) / 4096) 2251799813685247) (numF l) := by
  have e0 := num_mid l 0 8 (by omega) hb
  have e1 := num_mid l 6 8 (by omega) hb
  have e2 := num_mid l 12 8 (by omega) hb
  have e3 := num_mid l 19 8 (by omega) hb
  have e4 := num_mid l 24 8 (by omega) hb
  rw [List.drop_zero] at e0
  have hN := num_bound l hb
  rw [hl] at hN
  rw [e0, e1, e2, e3, e4]
  rw [and51 _ (by omega) (by omega), and51 _ (by omega) (by omega), and51 _ (by omega) (by omega), and51 _ (by omega) (by omega), and51 _ (by omega) (by omega)]
  exact limbs_wd _ hN.1 hN.2

theorem small_el (n : Int) (h0 : 0 ≤ n) (h1 : n < 18446744073709551616) : El (bits .and .u64 n 2251799813685247) (n / 2251799813685248) 0 0 0 (Fin.ofNat P n.toNat) := by
  rw [and51 n h0 h1]
  refine ⟨by omega, by omega, by omega, by omega, by omega, ?_⟩
  show _ = ((n.toNat % P : Nat) : Int)
  rw [Int.natCast_emod, PI_eq, Int.toNat_of_nonneg (by omega)]
  congr 1
  omega

theorem vals_size (l : List Int) : (vals l).size = l.length := by simp [vals]
theorem vals_get {l : List Int} {j : Nat} (h : j < l.length) : (vals l)[j]? = some (.int .u8 (nth l j)) := by
  rw [nth_get h]; simp [vals]

theorem nth_drop_take (l : List Int) (o n j : Nat) (hj : j < n) : nth ((l.drop o).take n) j = nth l (o + j) := by
  simp [nth, hj]

end Go.Proofs.Ytciakfhjjnmeeaa

namespace Go.Proofs.Ytciakfhjjnmeeaa
open Nt

theorem vals_set (l : List Int) (i : Nat) (x : Int) : (vals l).setIfInBounds i (.int .u8 x) = vals (l.set i x) := by
  simp [vals, List.map_set]

/-- The values of whole numbers of one kind. -/
def valsK (k : IntKind) (l : List Int) : Array Value := (l.map (Value.int k)).toArray
theorem valsK_get {k : IntKind} {l : List Int} {j : Nat} (h : j < l.length) : (valsK k l)[j]? = some (.int k (nth l j)) := by
  rw [nth_get h]; simp [valsK]
theorem valsK_size (k : IntKind) (l : List Int) : (valsK k l).size = l.length := by simp [valsK]
theorem valsK_set (k : IntKind) (l : List Int) (i : Nat) (x : Int) : (valsK k l).setIfInBounds i (.int k x) = valsK k (l.set i x) := by
  simp [valsK, List.map_set]
theorem valsK_one (k : IntKind) (l : List Int) : (valsK k l).all (·.oneCell') = true := by simp [valsK, Value.oneCell']
theorem vals_one (l : List Int) : (vals l).all (·.oneCell') = true := by simp [vals, Value.oneCell']

theorem can_nth {z0 z1 z2 z3 z4 : Int} {n : F} (h : Can z0 z1 z2 z3 z4 n) (j : Nat) (hj : j < 5) : nth [z0, z1, z2, z3, z4] j = ((n.val / 2 ^ (51 * j) % 2 ^ 51 : Nat) : Int) := by
  obtain ⟨a0, a1, a2, a3, a4, hs⟩ := h
  rw [Int.natCast_emod, Int.natCast_ediv, ← hs]
  have : j = 0 ∨ j = 1 ∨ j = 2 ∨ j = 3 ∨ j = 4 := by omega
  rcases this with rfl | rfl | rfl | rfl | rfl
  · show z0 = _ / ((1 : Nat) : Int) % ((2251799813685248 : Nat) : Int); omega
  · show z1 = _ / ((2251799813685248 : Nat) : Int) % ((2251799813685248 : Nat) : Int); omega
  · show z2 = _ / ((5070602400912917605986812821504 : Nat) : Int) % ((2251799813685248 : Nat) : Int); omega
  · show z3 = _ / ((11417981541647679048466287755595961091061972992 : Nat) : Int) % ((2251799813685248 : Nat) : Int); omega
  · show z4 = _ / ((25711008708143844408671393477458601640355247900524685364822016 : Nat) : Int) % ((2251799813685248 : Nat) : Int); omega

theorem bit_of (V k : Nat) : V / 2 ^ (51 * (k / 51)) % 2 ^ 51 / 2 ^ (k % 51) % 2 = V / 2 ^ k % 2 := by
  have key : ∀ x y : Nat, x.testBit 0 = y.testBit 0 → x % 2 = y % 2 := by
    intro x y h
    simp only [Nat.testBit_zero] at h
    have := decide_eq_decide.1 h
    omega
  apply key
  rw [Nat.testBit_div_two_pow, Nat.testBit_mod_two_pow, Nat.testBit_div_two_pow, Nat.testBit_div_two_pow]
  have e : k % 51 + 51 * (k / 51) = k := by omega
  have h : k % 51 < 51 := by omega
  simp [e, h]

theorem and_one (x : Int) (h0 : 0 ≤ x) (h1 : x < 18446744073709551616) : bits .and .u64 x 1 = x % 2 := by go_bits2

theorem bit_byte {z0 z1 z2 z3 z4 : Int} {n : F} (h : Can z0 z1 z2 z3 z4 n) (k : Nat) (hk : k < 255) :
    bits .or .u8 (byteOf (n.val % 2 ^ k) (k / 8) : Nat) (bits .and .u64 (nth [z0, z1, z2, z3, z4] (k / 51) / 2 ^ (k % 51)) 1 % 256 * 2 ^ (k % 8) % 256)
      = ((byteOf (n.val % 2 ^ k) (k / 8) ||| (n.val / 2 ^ k % 2) * 2 ^ (k % 8) : Nat) : Int) := by
  rw [can_nth h _ (by omega)]
  have hp : ((n.val / 2 ^ (51 * (k / 51)) % 2 ^ 51 : Nat) : Int) / 2 ^ (k % 51) = ((n.val / 2 ^ (51 * (k / 51)) % 2 ^ 51 / 2 ^ (k % 51) : Nat) : Int) := by
    rw [Int.natCast_ediv, Int.natCast_pow]; rfl
  rw [hp]
  have hb : n.val / 2 ^ (51 * (k / 51)) % 2 ^ 51 / 2 ^ (k % 51) < 2 ^ 51 := Nat.lt_of_le_of_lt (Nat.div_le_self _ _) (Nat.mod_lt _ (by decide))
  have hv := bit_of n.val k
  generalize hX : n.val / 2 ^ (51 * (k / 51)) % 2 ^ 51 / 2 ^ (k % 51) = X at hb hv ⊢
  rw [and_one _ (by omega) (by omega)]
  have hq : ((X : Nat) : Int) % 2 = ((n.val / 2 ^ k % 2 : Nat) : Int) := by
    rw [← hv]; rfl
  rw [hq]
  have h2 : 2 ^ (k % 8) ≤ 128 := by
    have := Nat.pow_le_pow_right (show 0 < 2 by decide) (show k % 8 ≤ 7 by omega)
    exact this
  generalize hb2 : n.val / 2 ^ k % 2 = b
  have hb3 : b ≤ 1 := by omega
  have hw : ((b : Nat) : Int) % 256 = (b : Int) := by omega
  have hm : b * 2 ^ (k % 8) ≤ 128 := by
    have : b = 0 ∨ b = 1 := by omega
    rcases this with rfl | rfl <;> omega
  have hx : ((b : Nat) : Int) * 2 ^ (k % 8) = ((b * 2 ^ (k % 8) : Nat) : Int) := by
    rw [Int.natCast_mul, Int.natCast_pow]; rfl
  rw [hw, hx, Int.emod_eq_of_lt (by omega) (by omega)]
  have hbo : byteOf (n.val % 2 ^ k) (k / 8) < 256 := Nat.mod_lt _ (by decide)
  exact u8_or_nat _ _ hbo (by omega)

theorem mod_all (n : F) : n.val % 2 ^ 255 = n.val := Nat.mod_eq_of_lt (Nat.lt_trans n.isLt (by decide))

end Go.Proofs.Ytciakfhjjnmeeaa

namespace Go.Proofs.Ytciakfhjjnmeeaa
open Go.RowKit

theorem all_nth : ∀ (xs ys : List Int), xs.length = ys.length → ((List.range xs.length).all fun i => nth xs i == nth ys i) = decide (xs = ys)
  | [], [], _ => rfl
  | x :: xs, y :: ys, h => by
    have ih := all_nth xs ys (by simpa using h)
    rw [List.length_cons, List.range_succ_eq_map, List.all_cons, List.all_map]
    have e : ((fun i => nth (x :: xs) i == nth (y :: ys) i) ∘ Nat.succ) = fun i => nth xs i == nth ys i := by
      funext i; simp [nth]
    rw [e, ih]
    simp only [nth, List.getD_cons_zero, List.cons.injEq]
    by_cases h1 : x = y <;> simp [h1]
  | [], _ :: _, h => by simp at h
  | _ :: _, [], h => by simp at h

section
variable {P : Program} (w : World)
theorem run_equalIn_vals (k : IntKind) (d : Nat) (t e : TypeId) (n : Nat) (ht : P.underlying t = some (.array n e)) (he : P.underlying e = some (.int k)) (hsz : ∀ w, (sizeOf e).run P w = .ok 1 w)
    (xs ys : List Int) (hx : xs.length = n) (hy : ys.length = n) :
    (Op.equalIn (d + 2) t (.agg (valsK k xs)) (.agg (valsK k ys))).run P w = .ok (decide (xs = ys)) w := by
  rw [← all_nth xs ys (hx.trans hy.symm), hx, List.range_eq_range', Op.equalIn]
  simp only [Sem.run_bind, run_underlying ht, Result.andThen_ok, hsz, Std.Legacy.Range.forIn_eq_forIn_range', Std.Legacy.Range.size, Nat.sub_zero, Nat.add_sub_cancel, Nat.div_one]
  have hl : ∀ i ∈ List.range' 0 n 1, i < n := fun i hi => by simpa using (List.mem_range'_1.1 hi).2
  generalize List.range' 0 n 1 = l at hl ⊢
  induction l with
  | nil => simp
  | cons i l ih =>
    have hi : i < n := hl i (by simp)
    have px : (part e (valsK k xs) (i * 1)).run P w = .ok (.int k (nth xs i)) w := by
      simp [part, isAgg, run_underlying he, valsK_get (k := k) (show i < xs.length by omega)]
    have py : (part e (valsK k ys) (i * 1)).run P w = .ok (.int k (nth ys i)) w := by
      simp [part, isAgg, run_underlying he, valsK_get (k := k) (show i < ys.length by omega)]
    have pe : (Op.equalIn (d + 1) e (.int k (nth xs i)) (.int k (nth ys i))).run P w = .ok (nth xs i == nth ys i) w := run_equalIn_int w d e k k _ _ he
    simp only [List.forIn_cons, Sem.run_bind, px, py, pe, Result.andThen_ok, List.all_cons]
    cases hb : (nth xs i == nth ys i)
    · simp
    · simp only [Bool.not_true, Bool.false_eq_true, if_false, Sem.run_pure, Result.andThen_ok, Bool.true_and]
      exact ih fun j hj => hl j (by simp [hj])

/-- '==' of two arrays of whole numbers. -/
theorem run_eql_vals (k : IntKind) (t e : TypeId) (n : Nat) (ht : P.underlying t = some (.array n e)) (he : P.underlying e = some (.int k)) (hsz : ∀ w, (sizeOf e).run P w = .ok 1 w)
    (xs ys : List Int) (hx : xs.length = n) (hy : ys.length = n) : (binOp .eql t (.agg (valsK k xs)) (.agg (valsK k ys))).run P w = .ok (.bool (decide (xs = ys))) w := by
  rw [run_eql_struct, run_equalIn_vals w k 9998 t e n ht he hsz xs ys hx hy]
  rfl
/-- '!=' of two arrays of whole numbers. -/
theorem run_neq_vals (k : IntKind) (t e : TypeId) (n : Nat) (ht : P.underlying t = some (.array n e)) (he : P.underlying e = some (.int k)) (hsz : ∀ w, (sizeOf e).run P w = .ok 1 w)
    (xs ys : List Int) (hx : xs.length = n) (hy : ys.length = n) : (binOp .neq t (.agg (valsK k xs)) (.agg (valsK k ys))).run P w = .ok (.bool (!decide (xs = ys))) w := by
  rw [run_neq_struct, run_equalIn_vals w k 9998 t e n ht he hsz xs ys hx hy]
  rfl
end

/-- A range of cells that lies below the callee's blocks is as it was. -/
theorem range_keep {W w1 : World} {b o : Nat} {cs : List Value} (hb : Below W.heap.size W w1) (h : W.rangeAt b o cs) : w1.rangeAt b o cs := fun j v hv => by
  have h1 := h j v hv
  have hlt := block_lt_of_cell h1
  exact (hb.cell (p := ⟨b, o + j, none⟩) hlt).trans h1

theorem range_row {w : World} {g : Nat} {cs : Array Value} {t : TypeId} (h : w.heap[g]? = some (.cells cs t (0, 0))) : w.rangeAt g 0 cs.toList := fun j v hv => by
  rw [Nat.zero_add]
  refine (row_cell h j).trans ?_
  simpa using hv

/-- One call behind another. -/
theorem below_call {w W w1 : World} (h2 : Below W.heap.size W w1) (h1 : Below w.heap.size w W) : Below w.heap.size w w1 := h1.trans (h2.mono h1.size)

end Go.Proofs.Ytciakfhjjnmeeaa

namespace Go.Proofs.Ytciakfhjjnmeeaa
open Go.RowKit
variable {P : Program}

theorem yieldsIf_row {ops : Array Oper} {S : World → Prop} {op : Oper} {a : Act} (hw : Region.wanted op (yielded ops a.tmps) = true) (ty : TypeId) (x : Operand) (ho : op.op = .load ty x)
    (g : Nat) (hx : a.eval x = .pointer (some ⟨g, 0, none⟩)) (cs : Array Value) (t : TypeId) (hS : ∀ w, S w → w.heap[g]? = some (.cells cs t (0, 0))) (n : Nat) (hT : RowT P ty n) (hn : cs.size = n) :
    YieldsIf P ops S op (.agg cs) a := by
  obtain ⟨d, h1, h2, h3⟩ := hT
  subst hn
  refine .inl ⟨hw, fun w hw' => ?_⟩
  unfold execOp
  simp only [ho, hx, Instr.loadAt, Instr.sureAddr, Sem.run_bind, Sem.run_pure, Result.andThen_ok, run_loadVar_row w g t ty cs (0, 0) d (hS w hw') h1 (by cases d <;> simp_all) h3]

theorem wp_st_row {o : Oper} {a : Act} {w : World} {K : Act → World → Prop} {Q : Exit → Act → World → Prop} (ty : TypeId) (x y : Operand) (ho : o.op = .store ty x y)
    (g : Nat) (cs : Array Value) (hx : a.eval x = .pointer (some ⟨g, 0, none⟩)) (hy : a.eval y = .agg cs) (t : TypeId) (old : Array Value) (hg : w.heap[g]? = some (.cells old t (0, 0)))
    (n : Nat) (hT : RowT P ty n) (hn : cs.size = n) (ho' : old.size = n) (h1 : cs.all (·.oneCell') = true) (h : K (a.put o.dst undef) (w.setRow g cs)) : o.wp P a w K Q := by
  obtain ⟨d, _, _, h3⟩ := hT
  subst hn
  exact wp_store_row ty x y ho g cs hx hy t old hg h3 ho' h1 h

theorem row_drew {w : World} {g : Nat} {o : Obj} (h : w.heap[g]? = some o) : w.drew.heap[g]? = some o := h
/-- What a call leaves of a row. -/
theorem row_call {W w1 : World} {g : Nat} {cs : Array Value} {t : TypeId} (hb : Below W.heap.size W w1) (h : W.heap[g]? = some (.cells cs t (0, 0))) : w1.heap[g]? = some (.cells cs t (0, 0)) := row_keep hb h (row_lt h)
end Go.Proofs.Ytciakfhjjnmeeaa

namespace Go.Proofs.Ytciakfhjjnmeeaa
open Go.RowKit
variable {P : Program}

/-- How many of the first n have not come up. -/
def cntF : Nat → (Nat → Bool) → Nat
  | 0, _ => 0
  | n + 1, f => cntF n f + (if f n then 0 else 1)

def upF (f : Nat → Bool) (i : Nat) : Nat → Bool := fun j => if j = i then true else f j

theorem cntF_same : ∀ (n i : Nat) (f : Nat → Bool), n ≤ i → cntF n (upF f i) = cntF n f
  | 0, _, _, _ => rfl
  | n + 1, i, f, h => by
    have e : upF f i n = f n := by simp only [upF]; rw [if_neg (by omega)]
    simp only [cntF]; rw [cntF_same n i f (by omega), e]

theorem cntF_up : ∀ (n i : Nat) (f : Nat → Bool), i < n → f i = false → cntF n (upF f i) + 1 = cntF n f
  | 0, _, _, h, _ => by omega
  | n + 1, i, f, h, hf => by
    simp only [cntF]
    by_cases e : i = n
    · subst e
      rw [cntF_same i i f (Nat.le_refl _), hf]
      simp [upF]
    · have e2 : upF f i n = f n := by simp only [upF]; rw [if_neg (by omega)]
      have := cntF_up n i f (by omega) hf
      rw [e2]; omega

theorem cntF_zero : ∀ (n : Nat) (f : Nat → Bool), cntF n f = 0 → ∀ j, j < n → f j = true
  | 0, _, _, j, h => by omega
  | n + 1, f, h, j, hj => by
    simp only [cntF] at h
    by_cases e : j = n
    · subst e
      cases hf : f j
      · rw [hf] at h; simp at h
      · rfl
    · exact cntF_zero n f (by omega) j (by omega)

theorem cntF_least : ∀ (n : Nat) (f : Nat → Bool), cntF n f ≠ 0 → ∃ j, j < n ∧ f j = false ∧ ∀ k, k < j → f k = true
  | 0, _, h => absurd rfl h
  | n + 1, f, h => by
    by_cases h0 : cntF n f = 0
    · have hall := cntF_zero n f h0
      cases hf : f n
      · exact ⟨n, by omega, hf, hall⟩
      · exfalso; apply h; simp only [cntF]; rw [h0, hf]; rfl
    · obtain ⟨j, h1, h2, h3⟩ := cntF_least n f h0
      exact ⟨j, by omega, h2, h3⟩

/-- Each operation waits for earlier ones alone. -/
def backB (ops : Array Oper) : Bool := (List.range ops.size).all fun i => match ops[i]? with
  | some o => o.after.all fun e => !Region.binds .any e || decide (e.on < i)
  | none => true

/-- The region's closed facts. -/
def headB (ops : Array Oper) (n : Nat) : Bool :=
  backB ops && decide (n < ops.size) && Region.sinkB .any ops n && Region.chainB .any ops n && Region.seqB .any ops (ops.size - n) n ((Array.range ops.size).map fun j => decide (j < n))

theorem listed_eq {listed : Array Bool} {m n : Nat} (hs : listed.size = m) (h1 : ∀ j, j < n → listed.getD j false = true) (h2 : ∀ t, n ≤ t → t < m → listed.getD t true = false) : listed = (Array.range m).map fun j => decide (j < n) := by
  apply Array.ext
  · simp [hs]
  · intro j hj hj'
    rw [Array.getElem_map, Array.getElem_range]
    by_cases h : j < n
    · have := h1 j h
      simp [hj] at this
      simp [h, this]
    · have := h2 j (by omega) (by omega)
      simp [hj] at this
      simp [h, this]

theorem wp_region_inv {id : Nat} {Q : Exit → Act → World → Prop} {a : Act} {w : World} {l : List Oper} (n : Nat) (hm : P.follows .mixedOrders = true) (hB : headB l.toArray n = true)
    (I : (Nat → Bool) → Act → World → Prop) (h0 : I (fun _ => false) a w.drew)
    (step : ∀ (f : Nat → Bool) (a : Act) (w : World) (i : Nat) (o : Oper), i < n → l[i]? = some o → f i = false → (∀ e ∈ o.after, Region.binds .any e = true → f e.on = true) → I f a w →
      ∀ K : Act → World → Prop, (∀ a' w', I (upF f i) a' w' → K a' w') → if Region.wanted o (yielded l.toArray a.tmps) = true then o.wp P a w K Q else K (a.put o.dst undef) w)
    (tail : ∀ (f : Nat → Bool) (a : Act) (w : World), (∀ j, j < n → f j = true) → I f a w → wpList P l.toArray Q (l.drop n) a w) : (Code.region id l.toArray true).wp P Q a w := by
  simp only [headB, Bool.and_eq_true, decide_eq_true_eq] at hB
  obtain ⟨⟨⟨⟨hb, hn⟩, hs⟩, hc⟩, hseq⟩ := hB
  have hsz : l.toArray.size = l.length := by simp
  have key : ∀ (m : Nat) (listed : Array Bool) (a : Act) (w : World), HeadInv .any l.toArray n listed → cntF n (fun j => listed.getD j false) = m → I (fun j => listed.getD j false) a w →
      wpAny P .any l.toArray Q (m + (l.toArray.size - n)) listed a w := by
    intro m
    induction m with
    | zero =>
      intro listed a w inv hcnt hI
      have hall := cntF_zero n _ hcnt
      have hle := listed_eq inv.size hall inv.tail
      have hdl : (l.drop n).length = l.toArray.size - n := by simp
      rw [Nat.zero_add, ← hdl]
      refine wpAny_of_seq (md := .any) (l.drop n) n listed a w (fun j => by simp [List.getElem?_drop]) ?_ (tail _ a w hall hI)
      rw [hdl, hle]; exact hseq
    | succ m ih =>
      intro listed a w inv hcnt hI
      obtain ⟨j, hj, hjf, hjl⟩ := cntF_least n _ (by rw [hcnt]; omega)
      have hjs : j < listed.size := by rw [inv.size]; omega
      have hjt : listed.getD j true = false := getD_in hjs hjf
      have hjn : j < l.toArray.size := by omega
      have hready : j ∈ Region.ready .any l.toArray listed := by
        refine mem_ready.2 ⟨hjt, l.toArray[j], by simp, fun e he hbe => ?_⟩
        have h1 := List.all_eq_true.1 hb j (List.mem_range.2 hjn)
        rw [Array.getElem?_eq_getElem hjn] at h1
        have h2 := Array.all_eq_true_iff_forall_mem.1 h1 e he
        rw [hbe] at h2
        exact hjl _ (of_decide_eq_true (by simpa using h2))
      rw [show m + 1 + (l.toArray.size - n) = (m + (l.toArray.size - n)) + 1 by omega]
      refine ⟨(fun h => by rw [h] at hready; cases hready), fun i hi => ?_⟩
      have hin : i < n := by
        rcases Nat.lt_or_ge i n with h | h
        · exact h
        · exact absurd hi (tail_waits hs hc hn inv _ j rfl hj hjt i h)
      obtain ⟨hi1, o, ho, hall⟩ := mem_ready.1 hi
      have hif : listed.getD i false = false := getD_both hi1
      have hupd : (fun k => (listed.setIfInBounds i true).getD k false) = upF (fun k => listed.getD k false) i := by
        funext k
        by_cases e : k = i
        · subst e
          have : k < listed.size := by rw [inv.size]; omega
          simp [upF, this]
        · rw [getD_set_ne false (fun h => e h.symm)]; simp [upF, e]
      have inv' := inv.set hi hin
      have hcnt' : cntF n (fun k => (listed.setIfInBounds i true).getD k false) = m := by
        rw [hupd]
        have := cntF_up n i (fun k => listed.getD k false) hin hif
        omega
      refine wpOp_step ho (fun K' hK => ?_)
      exact step _ a w i o hin (by simpa using ho) hif hall hI K' (fun a' w' h' => hK _ _ (ih _ _ _ inv' hcnt' (by rw [hupd]; exact h')))
  refine wp_region_any hm ?_
  have inv0 : HeadInv .any l.toArray n (Array.replicate l.toArray.size false) :=
    ⟨by simp, fun j oj _ hl => (by rw [getD_replicate_false] at hl; cases hl), fun t _ ht => getD_in (by simpa using ht) (getD_replicate_false _ _)⟩
  have hf0 : (fun j => (Array.replicate l.toArray.size false).getD j false) = fun _ => false := by funext j; exact getD_replicate_false _ _
  have hc0 : ∀ k, cntF k (fun _ => false) = k := by
    intro k; induction k with
    | zero => rfl
    | succ k ih => simp only [cntF]; rw [ih]; rfl
  have := key n _ a w.drew inv0 (by rw [hf0]; exact hc0 n) (by rw [hf0]; exact h0)
  rw [show n + (l.toArray.size - n) = l.toArray.size by omega] at this
  exact this
end Go.Proofs.Ytciakfhjjnmeeaa

namespace Go.Proofs.Ytciakfhjjnmeeaa
open Go.RowKit
variable {P : Program}

/-- The slots D, filled so far (f), with the values v. -/
def fillA (D : Nat → Nat) (f : Nat → Bool) (v : Nat → Value) : Nat → Array Value → Array Value
  | 0, t => t
  | n + 1, t => if f n then (fillA D f v n t).setIfInBounds (D n) (v n) else fillA D f v n t

def upV (v : Nat → Value) (i : Nat) (x : Value) : Nat → Value := fun j => if j = i then x else v j

theorem fillA_size (D : Nat → Nat) (f : Nat → Bool) (v : Nat → Value) : ∀ (n : Nat) (t : Array Value), (fillA D f v n t).size = t.size
  | 0, _ => rfl
  | n + 1, t => by simp only [fillA]; split <;> simp [fillA_size D f v n t]

theorem fillA_same (D : Nat → Nat) (f : Nat → Bool) (v : Nat → Value) (i : Nat) (x : Value) : ∀ (n : Nat) (t : Array Value), n ≤ i → fillA D (upF f i) (upV v i x) n t = fillA D f v n t
  | 0, _, _ => rfl
  | n + 1, t, h => by
    have e1 : upF f i n = f n := by simp only [upF]; rw [if_neg (by omega)]
    have e2 : upV v i x n = v n := by simp only [upV]; rw [if_neg (by omega)]
    simp only [fillA]; rw [fillA_same D f v i x n t (by omega), e1, e2]

theorem set_swap (t : Array Value) (i j : Nat) (x y : Value) (h : i ≠ j) : (t.setIfInBounds i x).setIfInBounds j y = (t.setIfInBounds j y).setIfInBounds i x := by
  apply Array.ext_getElem?
  intro k
  simp only [Array.getElem?_setIfInBounds]
  by_cases e1 : j = k
  · subst e1
    by_cases e2 : i = j
    · exact absurd e2 h
    · simp [e2]
  · by_cases e2 : i = k
    · subst e2; simp [e1]
    · simp [e1, e2]

theorem fillA_put (D : Nat → Nat) (f : Nat → Bool) (v : Nat → Value) (i : Nat) (x : Value) : ∀ (n : Nat) (t : Array Value), i < n → f i = false → (∀ j, j < n → j ≠ i → D j ≠ D i) →
    (fillA D f v n t).setIfInBounds (D i) x = fillA D (upF f i) (upV v i x) n t
  | 0, _, h, _, _ => by omega
  | n + 1, t, h, hf, hD => by
    by_cases e : i = n
    · subst e
      have e1 : upF f i i = true := by simp [upF]
      have e2 : upV v i x i = x := by simp [upV]
      simp only [fillA]
      rw [hf, e1, e2, fillA_same D f v i x i t (Nat.le_refl _)]
      rfl
    · have e1 : upF f i n = f n := by simp only [upF]; rw [if_neg (by omega)]
      have e2 : upV v i x n = v n := by simp only [upV]; rw [if_neg (by omega)]
      have ih := fillA_put D f v i x n t (by omega) hf (fun j hj hne => hD j (by omega) hne)
      simp only [fillA]
      rw [e1, e2, ← ih]
      split
      · rw [set_swap _ _ _ _ _ (hD n (by omega) (fun h => e h.symm))]
      · rfl

theorem fillA_get (D : Nat → Nat) (f : Nat → Bool) (v : Nat → Value) (i : Nat) : ∀ (n : Nat) (t : Array Value), i < n → f i = true → D i < t.size → (∀ j, j < n → j ≠ i → D j ≠ D i) →
    (fillA D f v n t)[D i]? = some (v i)
  | 0, _, h, _, _, _ => by omega
  | n + 1, t, h, hf, hs, hD => by
    simp only [fillA]
    by_cases e : i = n
    · subst e
      rw [if_pos hf, Array.getElem?_setIfInBounds]
      simp [fillA_size, hs]
    · have ih := fillA_get D f v i n t (by omega) hf hs (fun j hj hne => hD j (by omega) hne)
      split
      · rw [Array.getElem?_setIfInBounds, if_neg (hD n (by omega) (fun h => e h.symm))]; exact ih
      · exact ih

theorem fillA_other (D : Nat → Nat) (f : Nat → Bool) (v : Nat → Value) (k : Nat) : ∀ (n : Nat) (t : Array Value), (∀ j, j < n → D j ≠ k) → (fillA D f v n t)[k]? = t[k]?
  | 0, _, _ => rfl
  | n + 1, t, h => by
    simp only [fillA]
    have ih := fillA_other D f v k n t (fun j hj => h j (by omega))
    split
    · rw [Array.getElem?_setIfInBounds, if_neg (h n (by omega))]; exact ih
    · exact ih

theorem fillA_congr (D : Nat → Nat) (f f' : Nat → Bool) (v : Nat → Value) : ∀ (n : Nat) (t : Array Value), (∀ j, j < n → f j = f' j) → fillA D f v n t = fillA D f' v n t
  | 0, _, _ => rfl
  | n + 1, t, h => by simp only [fillA]; rw [fillA_congr D f f' v n t (fun j hj => h j (by omega)), h n (by omega)]

theorem fillA_none (D : Nat → Nat) (v : Nat → Value) : ∀ (n : Nat) (t : Array Value), fillA D (fun _ => false) v n t = t
  | 0, _ => rfl
  | n + 1, t => by simp only [fillA]; exact fillA_none D v n t

/-- A pointer to a row of the call's own, of sz cells. -/
def OwnRow (B sz : Nat) (w : World) (v : Value) : Prop := ∃ g t cs, v = .pointer (some ⟨g, 0, none⟩) ∧ B ≤ g ∧ w.heap[g]? = some (.cells cs t (0, 0)) ∧ cs.size = sz

theorem OwnRow.keep {B sz : Nat} {w w' : World} {v : Value} (h : OwnRow B sz w v) (hb : Below w.heap.size w w') : OwnRow B sz w' v := by
  obtain ⟨g, t, cs, h1, h2, h3, h4⟩ := h
  exact ⟨g, t, cs, h1, h2, row_call hb h3, h4⟩

/-- What holds while the region's head runs. -/
def HI (n : Nat) (D : Nat → Nat) (A : Nat → Option Nat) (V : Nat → Value → Prop) (S : World → Prop) (B : Nat) (t0 : Array Value) (df : List Deferred) (f : Nat → Bool) (a : Act) (w : World) : Prop :=
  ∃ v : Nat → Value, a = ⟨fillA D f v n t0, df⟩ ∧ S w ∧ (∀ i, i < n → f i = true → A i = none → V i (v i)) ∧ (∀ i, i < n → f i = true → ∀ sz, A i = some sz → OwnRow B sz w (v i)) ∧
    (∀ i j, i < n → j < n → i ≠ j → f i = true → f j = true → (A i).isSome = true → (A j).isSome = true → v i ≠ v j)

theorem wp_region_head {id : Nat} {Q : Exit → Act → World → Prop} {w : World} {l : List Oper} {t0 : Array Value} {df : List Deferred} (n : Nat) (D : Nat → Nat) (A : Nat → Option Nat) (V : Nat → Value → Prop) (S : World → Prop) (B : Nat)
    (hm : P.follows .mixedOrders = true) (hB : headB l.toArray n = true) (hD : ∀ i j, i < n → j < n → j ≠ i → D j ≠ D i) (hDs : ∀ i, i < n → D i < t0.size) (h0 : S w.drew) (hSB : ∀ w, S w → B ≤ w.heap.size)
    (hSa : ∀ w cs t, S w → S (w.alloc (.cells cs t)))
    (hval : ∀ i o, i < n → l[i]? = some o → A i = none → o.dst = some (D i) ∧ o.guard = none ∧ ∀ (a : Act) (w : World), S w → (∀ k, (∀ j, j < n → D j ≠ k) → a.tmps[k]? = t0[k]?) →
      (∀ j, (∃ e ∈ o.after, Region.binds .any e = true ∧ e.on = j) → j < n → A j = none → ∃ x, a.tmps[D j]? = some x ∧ V j x) → ∀ K : Act → World → Prop, (∀ x w', V i x → S w' → Below w.heap.size w w' → K (a.put (some (D i)) x) w') → o.wp P a w K Q)
    (hall : ∀ i o sz, i < n → l[i]? = some o → A i = some sz → o.dst = some (D i) ∧ o.guard = none ∧ ∃ (t : TypeId) (cs : Array Value), cs.size = sz ∧ ∀ (a : Act) (w : World) (K : Act → World → Prop),
      K (a.put (some (D i)) (.pointer (some ⟨w.heap.size, 0, none⟩))) (w.alloc (.cells cs t)) → o.wp P a w K Q)
    (tail : ∀ (v : Nat → Value) (w : World), S w → (∀ i, i < n → A i = none → V i (v i)) → (∀ i, i < n → ∀ sz, A i = some sz → OwnRow B sz w (v i)) →
      (∀ i j, i < n → j < n → i ≠ j → (A i).isSome = true → (A j).isSome = true → v i ≠ v j) → wpList P l.toArray Q (l.drop n) ⟨fillA D (fun _ => true) v n t0, df⟩ w) :
    (Code.region id l.toArray true).wp P Q ⟨t0, df⟩ w := by
  refine wp_region_inv n hm hB (HI n D A V S B t0 df) ⟨fun _ => undef, by rw [fillA_none], h0, (fun _ _ h => by cases h), (fun _ _ h => by cases h), (fun _ _ _ _ _ h => by cases h)⟩ ?_ ?_
  · rintro f a w i o hi ho hfi hdep ⟨v, rfl, hS, hV, hA, hne⟩ K hK
    have hput : ∀ x, (Act.put ⟨fillA D f v n t0, df⟩ (some (D i)) x) = ⟨fillA D (upF f i) (upV v i x) n t0, df⟩ := by
      intro x
      show (⟨(fillA D f v n t0).setIfInBounds (D i) x, df⟩ : Act) = _
      rw [fillA_put D f v i x n t0 hi hfi (fun j hj hne => hD i j hi hj hne)]
    have hup : ∀ j, j ≠ i → ∀ x, upF f i j = f j ∧ upV v i x j = v j := fun j hj x => ⟨by simp only [upF]; rw [if_neg hj], by simp only [upV]; rw [if_neg hj]⟩
    have hself : ∀ x, upV v i x i = x := fun x => by simp [upV]
    cases hAi : A i with
    | none =>
      obtain ⟨h1, h2, h3⟩ := hval i o hi ho hAi
      have hw : Region.wanted o (yielded l.toArray (fillA D f v n t0)) = true := by simp [Region.wanted, h2]
      rw [if_pos hw]
      refine h3 _ w hS (fun k hk => fillA_other D f v k n t0 hk) (fun j hj hjn hAj => ?_) K (fun x w' hx hS' hb => ?_)
      · obtain ⟨e, he, hbn, rfl⟩ := hj
        have hfj := hdep e he hbn
        exact ⟨v e.on, fillA_get D f v e.on n t0 hjn hfj (hDs _ hjn) (fun k hk hne => hD _ k hjn hk hne), hV _ hjn hfj hAj⟩
      · rw [hput x]
        refine hK _ _ ⟨_, rfl, hS', ?_, ?_, ?_⟩
        · intro j hj hf hn
          by_cases e : j = i
          · subst e; rw [hself]; exact hx
          · obtain ⟨e1, e2⟩ := hup j e x
            rw [e1] at hf; rw [e2]; exact hV j hj hf hn
        · intro j hj hf sz hs
          have e : j ≠ i := fun e => by subst e; rw [hAi] at hs; cases hs
          obtain ⟨e1, e2⟩ := hup j e x
          rw [e1] at hf; rw [e2]; exact (hA j hj hf sz hs).keep hb
        · intro j k hj hk hjk hfj hfk hsj hsk
          have e : j ≠ i := fun e => by subst e; rw [hAi] at hsj; cases hsj
          have e' : k ≠ i := fun e => by subst e; rw [hAi] at hsk; cases hsk
          obtain ⟨e1, e2⟩ := hup j e x
          obtain ⟨e3, e4⟩ := hup k e' x
          rw [e1] at hfj; rw [e3] at hfk; rw [e2, e4]
          exact hne j k hj hk hjk hfj hfk hsj hsk
    | some sz =>
      obtain ⟨h1, h2, t, cs, hcs, h3⟩ := hall i o sz hi ho hAi
      have hw : Region.wanted o (yielded l.toArray (fillA D f v n t0)) = true := by simp [Region.wanted, h2]
      rw [if_pos hw]
      refine h3 _ w K ?_
      rw [hput]
      have hBw := hSB w hS
      have hbel : Below w.heap.size w (w.alloc (.cells cs t)) := (Below.refl _ _).alloc (Nat.le_refl _) _
      have hold : ∀ j, j < n → f j = true → (A j).isSome = true → v j ≠ .pointer (some ⟨w.heap.size, 0, none⟩) := by
        intro j hj hf hs he
        obtain ⟨s, hs'⟩ := Option.isSome_iff_exists.1 hs
        obtain ⟨g, t', cs', hv, _, hr, _⟩ := hA j hj hf s hs'
        rw [hv] at he
        have hg : g = w.heap.size := by injection he with he; injection he with he; injection he
        have := row_lt hr
        omega
      refine hK _ _ ⟨_, rfl, hSa w cs t hS, ?_, ?_, ?_⟩
      · intro j hj hf hn
        have e : j ≠ i := fun e => by subst e; rw [hAi] at hn; cases hn
        obtain ⟨e1, e2⟩ := hup j e (.pointer (some ⟨w.heap.size, 0, none⟩))
        rw [e1] at hf; rw [e2]; exact hV j hj hf hn
      · intro j hj hf s hs
        by_cases e : j = i
        · subst e
          rw [hself]
          rw [hAi] at hs
          obtain rfl := Option.some.inj hs
          exact ⟨w.heap.size, t, cs, rfl, hBw, row_new, hcs⟩
        · obtain ⟨e1, e2⟩ := hup j e (.pointer (some ⟨w.heap.size, 0, none⟩))
          rw [e1] at hf; rw [e2]; exact (hA j hj hf s hs).keep hbel
      · intro j k hj hk hjk hfj hfk hsj hsk
        by_cases ej : j = i
        · subst ej
          have ek : k ≠ j := fun h => hjk h.symm
          obtain ⟨e3, e4⟩ := hup k ek (.pointer (some ⟨w.heap.size, 0, none⟩))
          rw [e3] at hfk; rw [hself, e4]
          exact fun h => hold k hk hfk hsk h.symm
        · by_cases ek : k = i
          · subst ek
            obtain ⟨e1, e2⟩ := hup j ej (.pointer (some ⟨w.heap.size, 0, none⟩))
            rw [e1] at hfj; rw [hself, e2]
            exact hold j hj hfj hsj
          · obtain ⟨e1, e2⟩ := hup j ej (.pointer (some ⟨w.heap.size, 0, none⟩))
            obtain ⟨e3, e4⟩ := hup k ek (.pointer (some ⟨w.heap.size, 0, none⟩))
            rw [e1] at hfj; rw [e3] at hfk; rw [e2, e4]
            exact hne j k hj hk hjk hfj hfk hsj hsk
  · rintro f a w hfull ⟨v, rfl, hS, hV, hA, hne⟩
    rw [fillA_congr D f (fun _ => true) v n t0 hfull]
    exact tail v w hS (fun i hi hn => hV i hi (hfull i hi) hn) (fun i hi sz hs => hA i hi (hfull i hi) sz hs) (fun i j hi hj hij hsi hsj => hne i j hi hj hij (hfull i hi) (hfull j hj) hsi hsj)
end Go.Proofs.Ytciakfhjjnmeeaa
