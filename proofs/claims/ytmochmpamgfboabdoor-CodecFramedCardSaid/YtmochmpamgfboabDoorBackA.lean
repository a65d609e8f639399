/- What is laid is read again: plain facts for CodecBack; loads of whole rows in lists with guards. -/
import Derived.Test.YtmochmpamgfboabDoorCodE
import Derived.Test.YtmochmpamgfboabDoorSized
import Derived.Test.YtmochmpamgfboabDoorDialx
import Derived.Test.YtmochmpamgfboabDoorPagE
namespace Go.Proofs.YtmochmpamgfboabDoor
open Go.RowKit
theorem num_le4 {x : Int} (h0 : 0 ≤ x) (h1 : x < 4294967296) : num (le4 x) = x := by
  simp only [le4, num]
  omega
theorem confL_len (n0 n1 n2 n3 n4 n5 : Int) : (confL n0 n1 n2 n3 n4 n5).length = 24 := rfl
theorem confL_byt (n0 n1 n2 n3 n4 n5 : Int) : Byt (confL n0 n1 n2 n3 n4 n5) := by
  intro x hx
  simp only [confL, List.mem_append, List.not_mem_nil, or_false] at hx
  rcases hx with h | h | h | h | h | h <;> exact le4_byt _ x h
theorem parsed_confL {n0 n1 n2 n3 n4 n5 : Int} (h : good n0 n1 n2 n3 n4 n5 = true) : parsed (confL n0 n1 n2 n3 n4 n5) = .tuple #[.agg #[.int .i64 n0, .int .i64 n1, .int .i64 n2, .int .i64 n3, .int .i64 n4, .int .i64 n5], .int .i64 0] := by
  have hg := of_decide_eq_true (show decide _ = true from h)
  have a0 : numAt (confL n0 n1 n2 n3 n4 n5) 0 = n0 := by
    show num (le4 (n0 % 4294967296)) = n0
    rw [num_le4 (by omega) (by omega)]; omega
  have a1 : numAt (confL n0 n1 n2 n3 n4 n5) 1 = n1 := by
    show num (le4 (n1 % 4294967296)) = n1
    rw [num_le4 (by omega) (by omega)]; omega
  have a2 : numAt (confL n0 n1 n2 n3 n4 n5) 2 = n2 := by
    show num (le4 (n2 % 4294967296)) = n2
    rw [num_le4 (by omega) (by omega)]; omega
  have a3 : numAt (confL n0 n1 n2 n3 n4 n5) 3 = n3 := by
    show num (le4 (n3 % 4294967296)) = n3
    rw [num_le4 (by omega) (by omega)]; omega
  have a4 : numAt (confL n0 n1 n2 n3 n4 n5) 4 = n4 := by
    show num (le4 (n4 % 4294967296)) = n4
    rw [num_le4 (by omega) (by omega)]; omega
  have a5 : numAt (confL n0 n1 n2 n3 n4 n5) 5 = n5 := by
    show num (le4 (n5 % 4294967296)) = n5
    rw [num_le4 (by omega) (by omega)]; omega
  rw [parsed, if_pos (confL_len ..), a0, a1, a2, a3, a4, a5, if_pos h]
theorem parse_conf {n0 n1 n2 n3 n4 n5 : Int} (hg : good n0 n1 n2 n3 n4 n5 = true) (p : Option Addr) (c : Nat) (w : World) (h : BytesIn w p (confL n0 n1 n2 n3 n4 n5)) : Calls Tryd.prog 19 #[.slice p 24 c] w (Gives (· = .tuple #[.agg #[.int .i64 n0, .int .i64 n1, .int .i64 n2, .int .i64 n3, .int .i64 n4, .int .i64 n5], .int .i64 0]) w) := by
  have h1 := parseConfig_24 p (confL n0 n1 n2 n3 n4 n5) c w (confL_len ..) (confL_byt n0 n1 n2 n3 n4 n5) h
  rwa [parsed_confL hg] at h1
theorem talkP_back {g : Bool} {n1 : Int} {d m : List Int} (hg : g = true) (hd : d.length = 16) (hm : (m.length : Int) = n1) : talkP g n1 (d ++ m) = (d, m, 0) := by
  rw [talkP, if_pos hg, if_pos (by rw [List.length_append, hd]; omega), List.take_left' hd, List.drop_left' hd]
theorem replyP_yes {g : Bool} {n1 : Int} {m : List Int} (hg : g = true) (hm : (m.length : Int) = n1) : replyP g n1 (1 :: m) = (true, m, 0) := by
  have h1 : nth (1 :: m) 0 = 1 := rfl
  rw [replyP, if_pos hg, if_pos (by rw [List.length_cons]; omega), if_pos h1]
  rfl
theorem zeros_rep (n : Nat) : zeros (List.replicate n 0) := fun j hj => by
  rw [List.length_replicate] at hj
  simp only [nth, List.getD_eq_getElem?_getD, List.getElem?_replicate, hj, if_true, Option.getD_some]
theorem replyP_no {g : Bool} {n : Nat} (hg : g = true) : replyP g n (List.replicate (n + 1) 0) = (false, List.replicate n 0, 0) := by
  rw [replyP, if_pos hg, if_pos (by rw [List.length_replicate]; omega), List.replicate_succ]
  show (if (0 : Int) = 1 then _ else if (0 : Int) = 0 ∧ zeros (List.replicate n 0) then _ else _) = _
  rw [if_neg (by decide), if_pos ⟨rfl, zeros_rep n⟩]
  rfl
theorem dialP_back {g : Bool} {n2 k : Int} {m : List Int} (hg : g = true) (h0 : 0 ≤ k) (h1 : k < n2) (h2 : n2 ≤ 64) (hm : m.length = 88) : dialP g n2 (le4 k ++ m) = (k, m, 0) := by
  have e : (le4 k ++ m).take 4 = le4 k := List.take_left' (le4_len k)
  rw [dialP, if_pos hg, if_pos (by rw [List.length_append, le4_len, hm]), e, num_le4 h0 (by omega), if_pos h1, List.drop_left' (le4_len k)]
theorem sizedL_byt {l : List Int} (h : Byt l) (n : Nat) : Byt (sizedL l n) := fun x hx => by
  rcases List.mem_append.1 hx with h1 | h1
  · exact h x (List.mem_of_mem_take h1)
  · obtain ⟨_, rfl⟩ := List.mem_replicate.1 h1
    decide
section
variable {o : Oper} {a : Act} {w : World} {Q : Exit → Act → World → Prop} {ops : Array Oper} {rest : List Oper} {P : Program}
theorem wpl_ld_at (hw : Region.wanted o (yielded ops a.tmps) = true) (ty : TypeId) (x : Operand) (ho : o.op = .load ty x) (ad : Addr) (hx : a.eval x = .pointer (some ad)) (cs : Array Value) (n : Nat) (hT : RowT P ty n) (hn : cs.size = n) (hc : CellsAt w ad cs)
    (h : wpList P ops Q rest (a.put o.dst (.agg cs)) w) : wpList P ops Q (o :: rest) a w := by
  refine wpList_step fun K hK => ?_
  rw [if_pos hw]
  refine wp_val (.agg cs) ?_ (hK _ _ h)
  unfold execOp; rw [ho]
  show ((do let z ← Instr.loadAt ty (a.eval x); pure (Next.value z)) : Sem Next).run P w = _
  rw [hx, Sem.run_bind, run_load_at hT hn hc]
  rfl
theorem wpl_bin (bo : BinOp) (ty ty' : TypeId) (x y : Operand) (u v r : Value) (hw : Region.wanted o (yielded ops a.tmps) = true) (ho : o.op = .binOp bo ty x y ty') (hx : a.eval x = u) (hy : a.eval y = v)
    (hrun : (do eqGuard bo ty x y u v; binOp bo ty u v : Sem Value).run P w = .ok r w) (h : wpList P ops Q rest (a.put o.dst r) w) : wpList P ops Q (o :: rest) a w := by
  refine wpList_step fun K hK => ?_
  rw [if_pos hw]
  refine wp_val r ?_ (hK _ _ h)
  subst hx; subst hy
  unfold execOp; rw [ho]
  show ((do let z ← (do eqGuard bo ty x y (a.eval x) (a.eval y); binOp bo ty (a.eval x) (a.eval y)); pure (Next.value z)) : Sem Next).run P w = _
  rw [Sem.run_bind, hrun]
  rfl
end
theorem row_part {w : World} {g o : Nat} {cs ds : Array Value} {t : TypeId} (h : w.heap[g]? = some (.cells cs t (0, 0))) (hs : ∀ j v, ds[j]? = some v → cs[o + j]? = some v) : CellsAt w ⟨g, o, none⟩ ds := fun j v hv => by
  have e : (⟨g, o, none⟩ : Addr).add j = ⟨g, o + j, none⟩ := by unfold Addr.add; split <;> simp_all
  rw [e, cell_of_row w g _ cs t (0, 0) h]
  exact hs j v hv
set_option maxRecDepth 100000 in
theorem neq_drop {p q : Operand} (xs : List Int) (hx : xs.length = 16) (w : World) :
    (do eqGuard .neq 42 p q (.agg (vals xs)) (.agg (vals xs)); binOp .neq 42 (.agg (vals xs)) (.agg (vals xs)) : Sem Value).run Tryd.prog w = .ok (.bool false) w := by
  have h1 : (eqGuard .neq 42 p q (.agg (vals xs)) (.agg (vals xs))).run Tryd.prog w = .ok () w := by kernel_rfl
  have h2 := run_neq_vals (P := Tryd.prog) w .u8 42 5 16 Tryd.underlying42 Tryd.underlying5 (fun w => by kernel_rfl) xs xs hx hx
  rw [decide_eq_true rfl] at h2
  rw [Sem.run_bind, h1]
  exact h2
end Go.Proofs.YtmochmpamgfboabDoor
