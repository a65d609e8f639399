/- trystref20.ParseTalk, ParseReply. Condition: lengths below 2^40; bytes. -/
import Derived.Test.YtmochmpamgfboabDoorTalkD
namespace Go.Proofs.YtmochmpamgfboabDoor
open Go.RowKit
theorem take_set_of {L b : List Int} {k : Nat} {x : Int} (hL : k < L.length) (hb : k < b.length) (h : L.take k = b.take k) (hx : x = nth b k) : (L.set k x).take (k + 1) = b.take (k + 1) := by
  rw [List.take_succ_eq_append_getElem (by simpa using hL), List.getElem_set_self, List.take_set_of_le (Nat.le_refl _), h, hx, ← take_nth b k hb]
theorem zeros_all {b : List Int} {n : Nat} (hn : b.length = n) (h0 : 0 < n) (hb : nth b 0 = 0) : b = List.replicate n 0 ↔ zeros (b.drop 1) := by
  cases b with
  | nil => simp at hn; omega
  | cons x t =>
    have hx : x = 0 := by simpa [nth] using hb
    subst hx
    simp only [List.length_cons] at hn
    subst hn
    rw [List.replicate_succ]
    simp only [List.cons.injEq, true_and, List.drop_succ_cons, List.drop_zero, zeros]
    constructor
    · intro h j hj
      rw [h]
      simp [nth, List.getD_eq_getElem?_getD, List.getElem?_replicate]
      split <;> rfl
    · intro h
      apply List.ext_getElem (by simp)
      intro j hj _
      have := h j hj
      simp [nth, List.getD_eq_getElem?_getD, List.getElem?_eq_getElem hj] at this
      simp [this]
end Go.Proofs.YtmochmpamgfboabDoor
