/- Walks of the ladder's small functions: Base, Agree, and of the law's own 'works'. Nothing that was there is turned. -/
import Derived.Test.YtciakfhjjnmeeaaLadMul
import Derived.Test.YtciakfhjjnmeeaaOrder
namespace Go.Proofs.Ytciakfhjjnmeeaa
open Go.RowKit Nt Edw

set_option maxRecDepth 100000 in
theorem eql_key {p q : Operand} (xs ys : List Int) (hx : xs.length = 32) (hy : ys.length = 32) (w : World) :
    (do eqGuard .eql 68 p q (.agg (vals xs)) (.agg (vals ys)); binOp .eql 68 (.agg (vals xs)) (.agg (vals ys)) : Sem Value).run Try.prog w = .ok (.bool (decide (xs = ys))) w := by
  have h1 : (eqGuard .eql 68 p q (.agg (vals xs)) (.agg (vals ys))).run Try.prog w = .ok () w := by kernel_rfl
  have h2 := run_eql_vals (P := Try.prog) w .u8 68 5 32 Try.underlying68 Try.underlying5 (fun w => by kernel_rfl) xs ys hx hy
  rw [Sem.run_bind, h1]
  exact h2
set_option maxRecDepth 100000 in
theorem neq_key {p q : Operand} (xs ys : List Int) (hx : xs.length = 32) (hy : ys.length = 32) (w : World) :
    (do eqGuard .neq 68 p q (.agg (vals xs)) (.agg (vals ys)); binOp .neq 68 (.agg (vals xs)) (.agg (vals ys)) : Sem Value).run Try.prog w = .ok (.bool (!decide (xs = ys))) w := by
  have h1 : (eqGuard .neq 68 p q (.agg (vals xs)) (.agg (vals ys))).run Try.prog w = .ok () w := by kernel_rfl
  have h2 := run_neq_vals (P := Try.prog) w .u8 68 5 32 Try.underlying68 Try.underlying5 (fun w => by kernel_rfl) xs ys hx hy
  rw [Sem.run_bind, h1]
  exact h2

/-- A byte of a key by value. -/
theorem run_index_key (l : List Int) (hl : l.length = 32) (k : Nat) (hk : k < 32) (w : World) : (Instr.index 68 (.agg (vals l)) (.int .i64 k)).run Try.prog w = .ok (.int .u8 (nth l k)) w := by
  have hs : (sizeOf 5).run Try.prog w = .ok 1 w := by kernel_rfl
  have hb : (0 : Int) ≤ k ∧ (k : Int) < (32 : Nat) := by omega
  have hv : (vals l)[k]? = some (.int .u8 (nth l k)) := vals_get (by omega)
  simp [Instr.index, run_underlying Try.underlying68, asIntOf, hb, hs, hk, hv, go_sem]

def nineL : List Int := [9, 0, 0, 0, 0, 0, 0, 0, 0, 0, 0, 0, 0, 0, 0, 0, 0, 0, 0, 0, 0, 0, 0, 0, 0, 0, 0, 0, 0, 0, 0, 0]
theorem nine_byt : Byt nineL := fun x hx => by simp [nineL] at hx; omega
theorem nine_num : numF nineL = 9 := by decide +kernel
theorem ladmul_ev (Lk Lu : List Int) (V : Nat) (x1 R : F) (w : World) (hlk : Lk.length = 32) (hbk : Byt Lk) (hlu : Lu.length = 32) (hbu : Byt Lu) (hV : cl Lk = V) (hx : numF Lu = x1) (hR : prod V x1 = R) :
    Calls Try.prog 47 #[.agg (vals Lk), .agg (vals Lu)] w (Gives (· = .agg (vals (bytesN R.val))) w) :=
  ladmul_any Lk Lu V x1 R w hlk hbk hlu hbu (by rw [← hV]; exact clampL_eq hlk hbk) (by rw [← hV]; exact cl_lt hlk hbk) hx hR

set_option maxHeartbeats 1000000 in
set_option maxRecDepth 100000 in
theorem base_any (L : List Int) (V : Nat) (R : F) (w : World) (hl : L.length = 32) (hb : Byt L) (hV : cl L = V) (hR : prod V 9 = R) : Calls Try.prog 53 #[.agg (vals L)] w (Gives (· = .agg (vals (bytesN R.val))) w) := by
  have HL := Lib.hid hl
  have HM := fun w => ladmul_ev L nineL V 9 R w hl hb rfl nine_byt hV nine_num hR
  have HO := Lib.hid HM
  have R0 := new2_0 w (.cells (vals L) 68) (.cells #[.int .u8 0, .int .u8 0, .int .u8 0, .int .u8 0, .int .u8 0, .int .u8 0, .int .u8 0, .int .u8 0, .int .u8 0, .int .u8 0, .int .u8 0, .int .u8 0, .int .u8 0, .int .u8 0, .int .u8 0, .int .u8 0, .int .u8 0, .int .u8 0, .int .u8 0, .int .u8 0, .int .u8 0, .int .u8 0, .int .u8 0, .int .u8 0, .int .u8 0, .int .u8 0, .int .u8 0, .int .u8 0, .int .u8 0, .int .u8 0, .int .u8 0, .int .u8 0] 68)
  have R1 := new2_1 w (.cells (vals L) 68) (.cells #[.int .u8 0, .int .u8 0, .int .u8 0, .int .u8 0, .int .u8 0, .int .u8 0, .int .u8 0, .int .u8 0, .int .u8 0, .int .u8 0, .int .u8 0, .int .u8 0, .int .u8 0, .int .u8 0, .int .u8 0, .int .u8 0, .int .u8 0, .int .u8 0, .int .u8 0, .int .u8 0, .int .u8 0, .int .u8 0, .int .u8 0, .int .u8 0, .int .u8 0, .int .u8 0, .int .u8 0, .int .u8 0, .int .u8 0, .int .u8 0, .int .u8 0, .int .u8 0] 68)
  have B0 : Below w.heap.size w ((w.alloc (.cells (vals L) 68)).alloc (.cells #[.int .u8 0, .int .u8 0, .int .u8 0, .int .u8 0, .int .u8 0, .int .u8 0, .int .u8 0, .int .u8 0, .int .u8 0, .int .u8 0, .int .u8 0, .int .u8 0, .int .u8 0, .int .u8 0, .int .u8 0, .int .u8 0, .int .u8 0, .int .u8 0, .int .u8 0, .int .u8 0, .int .u8 0, .int .u8 0, .int .u8 0, .int .u8 0, .int .u8 0, .int .u8 0, .int .u8 0, .int .u8 0, .int .u8 0, .int .u8 0, .int .u8 0, .int .u8 0] 68)) := by go_grown
  clear HM hV hR hl
  go_enter Try.func53, Try.ntmps53
  go_wp2_with (refine ld_row rfl 68 (.tmp 1) rfl _ (by rfl) _ _ R0 32 tKey (by rw [vals_size, HL.out]) ?_)
  generalize (w.alloc (.cells (vals L) 68)).alloc (.cells #[.int .u8 0, .int .u8 0, .int .u8 0, .int .u8 0, .int .u8 0, .int .u8 0, .int .u8 0, .int .u8 0, .int .u8 0, .int .u8 0, .int .u8 0, .int .u8 0, .int .u8 0, .int .u8 0, .int .u8 0, .int .u8 0, .int .u8 0, .int .u8 0, .int .u8 0, .int .u8 0, .int .u8 0, .int .u8 0, .int .u8 0, .int .u8 0, .int .u8 0, .int .u8 0, .int .u8 0, .int .u8 0, .int .u8 0, .int .u8 0, .int .u8 0, .int .u8 0] 68) = W at *
  refine (HO.out _).mono ?_
  rintro e w1 ⟨r, rfl, rfl, b1⟩
  have Q1 := row_call b1 R1
  have B1 := below_call b1 B0
  clear R0 R1 B0 b1 HO W
  go_wp2_with (refine st_row rfl 68 (.tmp 2) _ rfl _ _ (by rfl) (by rfl) _ _ Q1 32 tKey (by rw [vals_size, bytesN_len]) (by rfl) (vals_one _) ?_)
  refine ret_row rfl _ _ _ rfl (row_put Q1) 32 tKey (by rw [vals_size, bytesN_len]) rfl ?_
  exact ⟨_, rfl, rfl, below_setRow B1 (by omega) _⟩

/-- What has been gathered of the first k bytes: 0 just if they are. -/
theorem or_step (a b : Int) (ha : 0 ≤ a ∧ a < 256) (hb : 0 ≤ b ∧ b < 256) : (0 ≤ bits .or .u64 a b ∧ bits .or .u64 a b < 256) ∧ (bits .or .u64 a b = 0 ↔ a = 0 ∧ b = 0) := by
  obtain ⟨x, rfl⟩ := Int.eq_ofNat_of_zero_le ha.1
  obtain ⟨y, rfl⟩ := Int.eq_ofNat_of_zero_le hb.1
  have h : bits .or .u64 (x : Int) (y : Int) = ((x ||| y : Nat) : Int) := by go_bits2
  have h2 : x ||| y < 2 ^ 8 := Nat.or_lt_two_pow (by omega) (by omega)
  have h3 := @Nat.or_eq_zero_iff x y
  rw [h]
  omega
theorem bytesN_zero_iff (V : Nat) (hV : V < 256 ^ 32) : (∀ j, j < 32 → nth (bytesN V) j = 0) ↔ V = 0 := by
  constructor
  · intro h
    have e : bytesN V = List.replicate 32 0 := by
      apply List.ext_getElem (by rw [bytesN_len]; rfl)
      intro j h1 h2
      rw [List.getElem_replicate, ← nth_get h1]
      exact h j (by rw [bytesN_len] at h1; exact h1)
    have := num_bytesN V hV
    rw [e] at this
    have h0 : num (List.replicate 32 0) = 0 := by decide
    omega
  · rintro rfl j hj
    rw [nth_bytesN _ _ hj]
    simp [byteOf]

set_option maxHeartbeats 1000000 in
set_option maxRecDepth 100000 in
theorem agree_any (Lk Lu : List Int) (V : Nat) (x1 R : F) (w : World) (hlk : Lk.length = 32) (hbk : Byt Lk) (hlu : Lu.length = 32) (hbu : Byt Lu) (hV : cl Lk = V) (hx : numF Lu = x1) (hR : prod V x1 = R) :
    Calls Try.prog 51 #[.agg (vals Lk), .agg (vals Lu)] w (Gives (· = .tuple #[.agg (vals (bytesN R.val)), .int .u64 (mk (!decide (R = 0)))]) w) := by
  have HM := fun w => ladmul_ev Lk Lu V x1 R w hlk hbk hlu hbu hV hx hR
  have HO := Lib.hid HM
  have HK := Lib.hid hlk
  have HU := Lib.hid hlu
  have R0 := new3_0 w (.cells (vals Lk) 68) (.cells (vals Lu) 68) (.cells #[.int .u8 0, .int .u8 0, .int .u8 0, .int .u8 0, .int .u8 0, .int .u8 0, .int .u8 0, .int .u8 0, .int .u8 0, .int .u8 0, .int .u8 0, .int .u8 0, .int .u8 0, .int .u8 0, .int .u8 0, .int .u8 0, .int .u8 0, .int .u8 0, .int .u8 0, .int .u8 0, .int .u8 0, .int .u8 0, .int .u8 0, .int .u8 0, .int .u8 0, .int .u8 0, .int .u8 0, .int .u8 0, .int .u8 0, .int .u8 0, .int .u8 0, .int .u8 0] 68)
  have R1 := new3_1 w (.cells (vals Lk) 68) (.cells (vals Lu) 68) (.cells #[.int .u8 0, .int .u8 0, .int .u8 0, .int .u8 0, .int .u8 0, .int .u8 0, .int .u8 0, .int .u8 0, .int .u8 0, .int .u8 0, .int .u8 0, .int .u8 0, .int .u8 0, .int .u8 0, .int .u8 0, .int .u8 0, .int .u8 0, .int .u8 0, .int .u8 0, .int .u8 0, .int .u8 0, .int .u8 0, .int .u8 0, .int .u8 0, .int .u8 0, .int .u8 0, .int .u8 0, .int .u8 0, .int .u8 0, .int .u8 0, .int .u8 0, .int .u8 0] 68)
  have R2 := new3_2 w (.cells (vals Lk) 68) (.cells (vals Lu) 68) (.cells #[.int .u8 0, .int .u8 0, .int .u8 0, .int .u8 0, .int .u8 0, .int .u8 0, .int .u8 0, .int .u8 0, .int .u8 0, .int .u8 0, .int .u8 0, .int .u8 0, .int .u8 0, .int .u8 0, .int .u8 0, .int .u8 0, .int .u8 0, .int .u8 0, .int .u8 0, .int .u8 0, .int .u8 0, .int .u8 0, .int .u8 0, .int .u8 0, .int .u8 0, .int .u8 0, .int .u8 0, .int .u8 0, .int .u8 0, .int .u8 0, .int .u8 0, .int .u8 0] 68)
  have B0 : Below w.heap.size w (((w.alloc (.cells (vals Lk) 68)).alloc (.cells (vals Lu) 68)).alloc (.cells #[.int .u8 0, .int .u8 0, .int .u8 0, .int .u8 0, .int .u8 0, .int .u8 0, .int .u8 0, .int .u8 0, .int .u8 0, .int .u8 0, .int .u8 0, .int .u8 0, .int .u8 0, .int .u8 0, .int .u8 0, .int .u8 0, .int .u8 0, .int .u8 0, .int .u8 0, .int .u8 0, .int .u8 0, .int .u8 0, .int .u8 0, .int .u8 0, .int .u8 0, .int .u8 0, .int .u8 0, .int .u8 0, .int .u8 0, .int .u8 0, .int .u8 0, .int .u8 0] 68)) := by go_grown
  clear HM hV hR hx hlk hlu
  go_enter Try.func51, Try.ntmps51
  go_wp2_with (first | (refine ld_row rfl 68 (.tmp 2) rfl _ (by rfl) _ _ R0 32 tKey (by rw [vals_size, HK.out]) ?_) | (refine ld_row rfl 68 (.tmp 3) rfl _ (by rfl) _ _ R1 32 tKey (by rw [vals_size, HU.out]) ?_))
  generalize ((w.alloc (.cells (vals Lk) 68)).alloc (.cells (vals Lu) 68)).alloc (.cells #[.int .u8 0, .int .u8 0, .int .u8 0, .int .u8 0, .int .u8 0, .int .u8 0, .int .u8 0, .int .u8 0, .int .u8 0, .int .u8 0, .int .u8 0, .int .u8 0, .int .u8 0, .int .u8 0, .int .u8 0, .int .u8 0, .int .u8 0, .int .u8 0, .int .u8 0, .int .u8 0, .int .u8 0, .int .u8 0, .int .u8 0, .int .u8 0, .int .u8 0, .int .u8 0, .int .u8 0, .int .u8 0, .int .u8 0, .int .u8 0, .int .u8 0, .int .u8 0] 68) = W at *
  refine (HO.out _).mono ?_
  rintro e w1 ⟨r, rfl, rfl, b1⟩
  have Q2 := row_call b1 R2
  have B1 := below_call b1 B0
  have HL := row_lt Q2
  clear R0 R1 R2 B0 b1 HO W HK HU hbk hbu
  have hbl := bytesN_len R.val
  have Q3 := row_alloc (x := .cells (vals (bytesN R.val)) 68) Q2
  have Q4 := row_new (w := w1) (x := .cells (vals (bytesN R.val)) 68)
  have B2 := B1.alloc B1.size (.cells (vals (bytesN R.val)) 68)
  have HBL := Lib.hid hbl
  have HON := Lib.hid (vals_one (bytesN R.val))
  have hnb : ∀ j, 0 ≤ nth (bytesN R.val) j ∧ nth (bytesN R.val) j < 256 := fun j => (bytesN_byt _).nth j
  have HNB := Lib.hid hnb
  have hz := bytesN_zero_iff R.val (Nat.lt_trans R.isLt (by decide))
  have hz2 : (∀ j, j < 32 → nth (bytesN R.val) j = 0) ↔ R = 0 := hz.trans ⟨fun h => F.ext h, fun h => by rw [h]; rfl⟩
  have HZ := Lib.hid hz2
  clear hbl Q2 B1 hnb hz hz2
  have HBE : ∃ BL, BL = bytesN R.val := ⟨_, rfl⟩
  generalize hBL : bytesN R.val = BL at *
  clear HBE
  have HBE := Lib.hid hBL
  clear hBL
  go_wp2_with (first | (refine st_new rfl 68 (.tmp 6) _ rfl _ _ _ (by rfl) (by rfl) 32 tKey (by rw [vals_size, HBL.out]) (by rfl) HON.out ?_; generalize w1.alloc (.cells (vals BL) 68) = W at *; generalize w1.heap.size = g at *) | (refine ld_row rfl 68 (.tmp 6) rfl _ (by rfl) _ _ Q4 32 tKey (by rw [vals_size, HBL.out]) ?_))
  go_loop [7, 14] (fun a i => ∃ (k : Nat) (v : Int), k ≤ 32 ∧ i = .int .i64 k ∧ a = .int .u64 v ∧ (0 ≤ v ∧ v < 256) ∧ (v = 0 ↔ ∀ j, j < k → nth BL j = 0)) (fun _ i => 32 - (intOf i).toNat)
  case atStart => exact ⟨0, 0, by omega, rfl, rfl, by omega, ⟨fun _ j hj => by omega, fun _ => rfl⟩⟩
  case round =>
    obtain ⟨k, v, hk, rfl, rfl, hv, hvz⟩ := hrel
    have HVZ := Lib.hid hvz
    clear hvz
    by_cases hlt : k < 32
    · have c := run_index_key BL HBL.out k hlt
      have hx := HNB.out k
      obtain ⟨x, hxe⟩ : ∃ x, x = nth BL k := ⟨_, rfl⟩
      rw [← hxe] at c hx
      have ho := or_step v x hv hx
      have HOR := Lib.hid ho
      have hxw : IntKind.u64.wrap x = x := wrap_small x (by omega) (by omega)
      have HXE := Lib.hid hxe
      clear ho hxe
      go_wp2_with fail
      go_round
      case rel =>
        refine ⟨k + 1, _, by omega, by go_num, rfl, HOR.out.1, HOR.out.2.trans ⟨fun h j hj => ?_, fun h => ⟨HVZ.out.2 fun j hj => h j (by omega), by rw [HXE.out]; exact h k (by omega)⟩⟩⟩
        rcases Nat.lt_or_ge j k with h' | h'
        · exact HVZ.out.1 h.1 j h'
        · obtain rfl : j = k := by omega
          rw [← HXE.out]; exact h.2
      case measure => simp [intOf]; omega
    · obtain rfl : k = 32 := by omega
      have hm : IntKind.u64.wrap (-((v + 255) / 256)) = mk (!decide (R = 0)) := by
        have hvr : v = 0 ↔ R = 0 := HVZ.out.trans HZ.out
        by_cases h0 : v = 0
        · have := hvr.1 h0
          subst h0
          rw [decide_eq_true this]; decide
        · have hr : R ≠ 0 := fun h => h0 (hvr.2 h)
          rw [decide_eq_false hr]
          have : (v + 255) / 256 = 1 := by omega
          rw [this]; decide
      have HMM := Lib.hid hm
      clear hm
      go_wp2_with (first | (refine ld_row rfl 68 (.tmp 6) rfl _ (by rfl) _ _ Q4 32 tKey (by rw [vals_size, HBL.out]) ?_) | (refine st_row rfl 68 (.tmp 4) _ rfl _ _ (by rfl) (by rfl) _ _ Q3 32 tKey (by rw [vals_size, HBL.out]) (by rfl) HON.out ?_))
      refine ret_row_tmp rfl _ _ _ rfl (row_put Q3) 32 tKey (by rw [vals_size, HBL.out]) rfl ?_
      exact ⟨_, rfl, by rw [← HMM.out, HBE.out]; rfl, below_setRow B2 (by omega) _⟩
end Go.Proofs.Ytciakfhjjnmeeaa
