/- Plain arithmetic of digits to the base 65536, and of rows that are filled from the front. No condition. -/
import Derived.Test.YtemkpihfenokmaaDoorElem2
namespace Go.Proofs.YtemkpihfenokmaaDoor
open Nt

/-- The number of digits, the lowest first. -/
def dnum : List Int → Int
  | [] => 0
  | b :: r => b + 65536 * dnum r

/-- Sixteen digits. -/
def Norm (l : List Int) : Prop := l.length = 16 ∧ ∀ x ∈ l, 0 ≤ x ∧ x < 65536

theorem Norm.nth {l : List Int} (h : Norm l) (j : Nat) : 0 ≤ nth l j ∧ nth l j < 65536 := by
  by_cases hj : j < l.length
  · rw [nth_get hj]; exact h.2 _ (List.getElem_mem hj)
  · simp [Go.Proofs.YtemkpihfenokmaaDoor.nth, List.getElem?_eq_none (by omega : l.length ≤ j)]

theorem dnum_append (a b : List Int) : dnum (a ++ b) = dnum a + 65536 ^ a.length * dnum b := by
  induction a with
  | nil => simp [dnum]
  | cons x r ih => simp only [List.cons_append, dnum, ih, List.length_cons, Int.pow_succ]; grind

theorem dnum_bound : ∀ l : List Int, (∀ x ∈ l, 0 ≤ x ∧ x < 65536) → 0 ≤ dnum l ∧ dnum l < 65536 ^ l.length
  | [], _ => by simp [dnum]
  | b :: r, h => by
    have hb := h b (by simp)
    have hr := dnum_bound r (fun x hx => h x (by simp [hx]))
    simp only [dnum, List.length_cons, Int.pow_succ]
    omega

theorem take_nth (l : List Int) (k : Nat) (h : k < l.length) : l.take (k + 1) = l.take k ++ [nth l k] := by
  rw [List.take_succ_eq_append_getElem h, nth_get h]
theorem drop_nth (l : List Int) (k : Nat) (h : k < l.length) : l.drop k = nth l k :: l.drop (k + 1) := by
  rw [List.drop_eq_getElem_cons h, nth_get h]

theorem dnum_take (l : List Int) (k : Nat) (h : k < l.length) : dnum (l.take (k + 1)) = dnum (l.take k) + 65536 ^ k * nth l k := by
  rw [take_nth l k h, dnum_append, List.length_take]
  have : min k l.length = k := by omega
  rw [this]; simp [dnum]

theorem dnum_set (l : List Int) (j : Nat) (v : Int) (h : j < l.length) : dnum (l.set j v) = dnum l + 65536 ^ j * (v - nth l j) := by
  have e1 : l = l.take j ++ nth l j :: l.drop (j + 1) := by rw [← drop_nth l j h, List.take_append_drop]
  have e2 : l.set j v = l.take j ++ v :: l.drop (j + 1) := List.set_eq_take_append_cons_drop.trans (by rw [if_pos h])
  have hl : (l.take j).length = j := by rw [List.length_take]; omega
  rw [e2, dnum_append, hl]
  conv => rhs; rw [e1]
  have hn : nth (l.take j ++ nth l j :: l.drop (j + 1)) j = nth l j := by rw [← e1]
  rw [hn, dnum_append, hl]
  simp only [dnum]
  grind

theorem nth_set (l : List Int) (j i : Nat) (v : Int) (h : j < l.length) : nth (l.set j v) i = if i = j then v else nth l i := by
  simp only [nth, List.getD_eq_getElem?_getD, List.getElem?_set]
  by_cases e : j = i
  · subst e; simp [h]
  · have e' : ¬ i = j := fun h => e h.symm
    simp [e, e']

/-! ### Rows that are filled from the front -/
theorem fill_step (T Z : List Int) (k : Nat) (hk : k < T.length) (hl : T.length = Z.length) : (T.take k ++ Z.drop k).set k (nth T k) = T.take (k + 1) ++ Z.drop (k + 1) := by
  have h1 : (T.take k).length = k := by rw [List.length_take]; omega
  rw [List.set_append_right _ _ (by omega), h1, Nat.sub_self, drop_nth Z k (by omega), List.set_cons_zero, take_nth T k hk, List.append_assoc]
  rfl
theorem fill_rest (T Z : List Int) (k j : Nat) (hk : k ≤ j) (hT : k ≤ T.length) : nth (T.take k ++ Z.drop k) j = nth Z j := by
  have h1 : (T.take k).length = k := by rw [List.length_take]; omega
  have e : k + (j - k) = j := by omega
  simp only [nth, List.getD_eq_getElem?_getD]
  rw [List.getElem?_append_right (by omega), h1, List.getElem?_drop, e]
theorem fill_len (T Z : List Int) (k : Nat) (hl : T.length = Z.length) (hk : k ≤ T.length) : (T.take k ++ Z.drop k).length = Z.length := by
  rw [List.length_append, List.length_take, List.length_drop]; omega
theorem pre_set (A R : List Int) (x v : Int) (k : Nat) (h : A.length = k) : (A ++ x :: R).set k v = (A ++ [v]) ++ R := by
  rw [List.set_append_right _ _ (by omega), h, Nat.sub_self, List.set_cons_zero, List.append_assoc]; rfl
theorem pre_nth (A R : List Int) (x : Int) (k : Nat) (h : A.length = k) : nth (A ++ x :: R) k = x := by
  simp only [nth, List.getD_eq_getElem?_getD]
  rw [List.getElem?_append_right (by omega), h, Nat.sub_self]; rfl

/-! ### Bytes and digits -/
/-- The digits of bytes. -/
def dgs : List Int → List Int
  | a :: b :: r => (a + 256 * b) :: dgs r
  | _ => []
/-- The bytes of digits. -/
def undg : List Int → List Int
  | x :: r => x % 256 :: x / 256 :: undg r
  | [] => []

theorem dgs_len : ∀ (n : Nat) (l : List Int), l.length = 2 * n → (dgs l).length = n
  | 0, l, h => by have : l = [] := List.length_eq_zero_iff.1 (by omega); subst this; rfl
  | n + 1, a :: b :: r, h => by simp only [List.length_cons] at h; simp [dgs, dgs_len n r (by omega)]
  | n + 1, [a], h => by simp at h; omega
  | n + 1, [], h => by simp at h

theorem dgs_nth : ∀ (i : Nat) (l : List Int), 2 * i + 1 < l.length → nth (dgs l) i = nth l (2 * i) + 256 * nth l (2 * i + 1)
  | 0, a :: b :: r, _ => by simp [dgs, nth]
  | i + 1, a :: b :: r, h => by
    have := dgs_nth i r (by simp only [List.length_cons] at h; omega)
    have e1 : nth (dgs (a :: b :: r)) (i + 1) = nth (dgs r) i := by simp [dgs, nth]
    have e2 : nth (a :: b :: r) (2 * (i + 1)) = nth r (2 * i) := by simp [nth, Nat.mul_add]
    have e3 : nth (a :: b :: r) (2 * (i + 1) + 1) = nth r (2 * i + 1) := by simp [nth, Nat.mul_add]
    rw [e1, e2, e3, this]
  | _, [a], h => by simp at h
  | _, [], h => by simp at h

theorem dgs_num : ∀ (n : Nat) (l : List Int), l.length = 2 * n → dnum (dgs l) = num l
  | 0, l, h => by have : l = [] := List.length_eq_zero_iff.1 (by omega); subst this; rfl
  | n + 1, a :: b :: r, h => by
    simp only [List.length_cons] at h
    simp only [dgs, dnum, num, dgs_num n r (by omega)]; omega
  | n + 1, [a], h => by simp at h; omega
  | n + 1, [], h => by simp at h

theorem dgs_norm (l : List Int) (hl : l.length = 32) (hb : Byt l) : Norm (dgs l) := by
  refine ⟨dgs_len 16 l (by omega), fun x hx => ?_⟩
  obtain ⟨i, hi, rfl⟩ := List.getElem_of_mem hx
  rw [dgs_len 16 l (by omega)] at hi
  rw [← nth_get, dgs_nth i l (by omega)]
  have h1 := hb.nth (2 * i)
  have h2 := hb.nth (2 * i + 1)
  omega

theorem undg_len : ∀ l : List Int, (undg l).length = 2 * l.length
  | [] => rfl
  | x :: r => by simp [undg, undg_len r]; omega

theorem undg_byt : ∀ l : List Int, (∀ x ∈ l, 0 ≤ x ∧ x < 65536) → Byt (undg l)
  | [], _ => fun x hx => by cases hx
  | y :: r, h => fun x hx => by
    have hy := h y (by simp)
    simp only [undg, List.mem_cons] at hx
    rcases hx with rfl | rfl | hx
    · omega
    · omega
    · exact undg_byt r (fun z hz => h z (by simp [hz])) x hx

theorem undg_num : ∀ l : List Int, num (undg l) = dnum l
  | [] => rfl
  | x :: r => by simp only [undg, num, dnum, undg_num r]; omega

theorem undg_even : ∀ (i : Nat) (l : List Int), i < l.length → nth (undg l) (2 * i) = nth l i % 256
  | 0, x :: r, _ => by simp [undg, nth]
  | i + 1, x :: r, h => by
    have := undg_even i r (by simp only [List.length_cons] at h; omega)
    have e : nth (undg (x :: r)) (2 * (i + 1)) = nth (undg r) (2 * i) := by simp [undg, nth, Nat.mul_add]
    rw [e, this]; simp [nth]
  | _, [], h => by simp at h

theorem undg_odd : ∀ (i : Nat) (l : List Int), i < l.length → nth (undg l) (2 * i + 1) = nth l i / 256
  | 0, x :: r, _ => by simp [undg, nth]
  | i + 1, x :: r, h => by
    have := undg_odd i r (by simp only [List.length_cons] at h; omega)
    have e : nth (undg (x :: r)) (2 * (i + 1) + 1) = nth (undg r) (2 * i + 1) := by simp [undg, nth, Nat.mul_add]
    rw [e, this]; simp [nth]
  | _, [], h => by simp at h

/-- Bytes are told by their number. -/
theorem bytes_of_num (l : List Int) (hl : l.length = 32) (hb : Byt l) (V : Nat) (h : num l = (V : Int)) : l = bytesN V := by
  apply List.ext_getElem
  · rw [hl, bytesN_len]
  · intro j h1 h2
    have hm := num_mid l j 1 (by omega) hb
    rw [drop_nth l j h1] at hm
    simp only [List.take_succ_cons, List.take_zero, num] at hm
    rw [← nth_get h1, ← nth_get h2, nth_bytesN V j (by omega)]
    rw [h] at hm
    have e : ((byteOf V j : Nat) : Int) = (V : Int) / 256 ^ j % 256 := by
      rw [byteOf, Int.natCast_emod, Int.natCast_ediv, Int.natCast_pow]; rfl
    rw [e]; omega

theorem num_bytesN (V : Nat) (h : V < 256 ^ 32) : num (bytesN V) = (V : Int) := by
  have h1 := num_bound _ (bytesN_byt V)
  rw [bytesN_len] at h1
  obtain ⟨U, hU⟩ := Int.eq_ofNat_of_zero_le h1.1
  have h2 := bytes_of_num _ (bytesN_len V) (bytesN_byt V) U hU
  have hUV : ∀ n, n ≤ 32 → U % 256 ^ n = V % 256 ^ n := by
    intro n
    induction n with
    | zero => intro _; rw [Nat.pow_zero, Nat.mod_one, Nat.mod_one]
    | succ n ih =>
      intro hn
      have e := congrArg (fun l => nth l n) h2
      simp only [nth_bytesN _ n (by omega)] at e
      have e' : byteOf V n = byteOf U n := by omega
      simp only [byteOf] at e'
      rw [Nat.pow_succ, Nat.mod_mul, Nat.mod_mul, ih (by omega), e']
  have h3 := hUV 32 (Nat.le_refl _)
  have hU' : U < 256 ^ 32 := by
    have := h1.2
    rw [hU] at this
    have h4 : ((U : Nat) : Int) < ((256 ^ 32 : Nat) : Int) := by rw [Int.natCast_pow]; exact this
    exact Int.ofNat_lt.1 h4
  rw [Nat.mod_eq_of_lt hU', Nat.mod_eq_of_lt h] at h3
  rw [hU, h3]

end Go.Proofs.YtemkpihfenokmaaDoor
