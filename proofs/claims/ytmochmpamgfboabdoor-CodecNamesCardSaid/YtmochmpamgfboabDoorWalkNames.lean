/- The walk of CodecNames. No condition. -/
import Derived.Test.YtmochmpamgfboabDoorPagE
import Derived.Test.YtmochmpamgfboabDoorPutC
import Derived.Lib.SlBytesConst
namespace Go.Proofs.YtmochmpamgfboabDoor
open Go.RowKit
/-- The acknowledgement. -/
def ackB : List UInt8 := [116, 114, 121, 115, 116, 58, 32, 114, 117, 110, 103, 44, 32, 111, 107, 46]
theorem held_st {P : Program} {ops : Array Oper} {rest : List Oper} {o : Oper} {Q : Exit → Act → World → Prop} {a : Act} {w : World} (ty : TypeId) (x y : Operand) (_ : o.op = .store ty x y) (h : Held (wpList P ops Q (o :: rest) a w)) : wpList P ops Q (o :: rest) a w := h
set_option maxRecDepth 100000 in
theorem ack_lit (w : World) : Calls Tryd.prog 10 #[] w (fun e w' => e = .returned (.slice (some ⟨w.heap.size, 0, none⟩) 16 16) ∧ Below w.heap.size w w' ∧ ∀ j (hj : j < ackB.length), w'.cell? ((⟨w.heap.size, 0, none⟩ : Addr).add j) = some (.int .u8 (ackB[j].toNat : Int))) := by
  have kc := fun (w : World) (C : Array Value) (n c : Nat) => Lib.run_convert_bytes_const (P := Tryd.prog) w 28 5 C n c Tryd.underlying28 Tryd.underlying5
  go_enter Tryd.func10, Tryd.ntmps10
  go_wp2
  refine ⟨rfl, .slice (some ⟨w.heap.size, 0, none⟩) 16 16, by kernel_rfl, rfl, (Below.refl _ _).alloc (Nat.le_refl _) _, fun j hj => ?_⟩
  rw [add_lit]
  have hj' : j < 16 := hj
  rcases (show j = 0 ∨ j = 1 ∨ j = 2 ∨ j = 3 ∨ j = 4 ∨ j = 5 ∨ j = 6 ∨ j = 7 ∨ j = 8 ∨ j = 9 ∨ j = 10 ∨ j = 11 ∨ j = 12 ∨ j = 13 ∨ j = 14 ∨ j = 15 by omega) with rfl | rfl | rfl | rfl | rfl | rfl | rfl | rfl | rfl | rfl | rfl | rfl | rfl | rfl | rfl | rfl <;>
    · simp only [World.cell?, World.alloc, Array.getElem?_push_size]
      rfl
set_option maxHeartbeats 4000000 in
set_option maxRecDepth 100000 in
theorem codecNames_walk (w : World) : Calls Tryd.prog 3 #[] w (fun e w' => e = .returned (.bool true) ∧ Below w.heap.size w w') := by
  have HN := Lib.hid (show ¬ good 4 32 3 113 2 1 = true by decide)
  have hcv : ∀ (w0 w' : World), (∀ j (hj : j < ackB.length), w'.cell? ((⟨w0.heap.size, 0, none⟩ : Addr).add j) = some (.int .u8 (ackB[j].toNat : Int))) → (convert 28 9 (.slice (some ⟨w0.heap.size, 0, none⟩) 16 16)).run Tryd.prog w' = .ok (.string ⟨ackB.toArray⟩) w' := fun w0 w' h =>
    run_convert_bytes_back (P := Tryd.prog) w' 28 9 5 ⟨w0.heap.size, 0, none⟩ 16 ackB Tryd.underlying28 Tryd.underlying5 Tryd.underlying9 h
  have HCV := Lib.hid hcv
  clear hcv
  go_enter Tryd.func3, Tryd.ntmps3
  go_wp2_with first
    | (go_at_call 7; refine (small_ev _).mono ?_; rintro e w1 ⟨_, rfl, rfl, hb⟩; have HB1 := Lib.hid hb; clear hb)
    | ((with_reducible refine guard_list ?_); refine held_st 23 _ _ rfl ?_; refine st_row rfl _ _ _ rfl _ #[.int .i64 4, .int .i64 32, .int .i64 3, .int .i64 114, .int .i64 2, .int .i64 1] rfl rfl _ _ (heap_alloc_new w1 _) 6 tConf rfl rfl (by simp [Value.oneCell']) ?_; rw [World.setRow_alloc_new])
    | (go_at_call 8; refine (awake_ev _).mono ?_; rintro e w2 ⟨_, rfl, rfl, hb⟩; have hc := conf_cells (heap_alloc_new w1 _) hb; have HB2 := Lib.hid (below_call hb (HB1.out.alloc HB1.out.size _)); clear hb)
    | (go_at_call 9; refine (check_no HN.out _).mono ?_; rintro e w3 ⟨_, rfl, rfl, hb⟩; have HB3 := Lib.hid (below_call hb HB2.out); clear hb hc)
    | (go_at_call 10; refine (ack_lit _).mono ?_; rintro e w4 ⟨rfl, hb, hcell⟩; have HB4 := Lib.hid (below_call hb HB3.out); have hcv1 := HCV.out _ _ hcell; clear hb hcell)
  exact ⟨rfl, .bool true, by kernel_rfl, rfl, HB4.out⟩
end Go.Proofs.YtmochmpamgfboabDoor
