/- The closed case: what every right program sums of three bytes. -/
import Derived.Test.YtcbkhbnemhkheaaRwin
namespace Go.Proofs.Ytcbkhbnemhkheaa
namespace Ro
open Go.RowKit Flo Ba
set_option linter.unusedVariables false
theorem FL_6 : FL 6 = 4618441417868443648 := by decide +kernel
theorem FL_10 : FL 10 = 4621819117588971520 := by decide +kernel
theorem C_lit : Value.complex .f64 4618441417868443648 4621819117588971520 = C 6 10 := by unfold C; rw [FL_6, FL_10]
theorem bool_cmp (a b : Int) (ha : ok53 a) (hb : ok53 b) : Op.Complex.cmp .eql .f64 (FL a) (FL b) = pure (decide (a = b)) := by
  have := f_eql 0 a b ha hb
  unfold Op.Complex.cmp Op.floatCmp
  rw [order_F a b ha hb]
  have h : (some (compare a b) == some Ordering.eq) = decide (a = b) := by
    rw [Bool.eq_iff_iff]
    simp [cmp_eq]
  simp [h, asBool]
theorem c_eql (t : TypeId) (a b c d : Int) (ha : ok53 a) (hb : ok53 b) (hc : ok53 c) (hd : ok53 d) : binOp .eql t (C a b) (C c d) = pure (.bool (decide (a = c) && decide (b = d))) := by
  rw [bin_c]
  unfold Op.complexOp
  simp only [bool_cmp a c ha hc, bool_cmp b d hb hd]
  rfl
attribute [local go_sem] eqGuard_F eqGuard_C
theorem one23 : ha [1, 2, 3] = 6 ∧ hb [1, 2, 3] = 10 ∧ rsum [1, 2, 3] = 655366 ∧ rsum [2, 3, 4] = 1048585 := by decide
set_option maxRecDepth 100000 in
set_option maxHeartbeats 2000000 in
theorem awake_calls (w : World) : Calls Try.prog 9 #[] w fun e w' => e = .returned (.bool true) ∧ Below w.heap.size w w' := by
  have n1 : ∀ w, (binOp .eql 26 (C 6 10) (C 6 10)).run Try.prog w = .ok (.bool true) w := fun w => by
    rw [c_eql _ _ _ _ _ (ok53_nat (by omega) (by omega)) (ok53_nat (by omega) (by omega)) (ok53_nat (by omega) (by omega)) (ok53_nat (by omega) (by omega))]
    rfl
  have N1 := Lib.hid n1
  clear n1
  have Hp := Lib.hid (fun w => pack_calls 6 10 (by omega) (by omega) (by omega) (by omega) w)
  obtain ⟨q1, q2, q3, q4⟩ := one23
  have Q1 := Lib.hid q1
  have Q2 := Lib.hid q2
  have Q3 := Lib.hid q3
  have Q4 := Lib.hid q4
  clear q1 q2 q3 q4
  have hl1 := ReadB.litN w 5 [.int .u8 1, .int .u8 2, .int .u8 3] [1, 2, 3] w.heap.size rfl rfl
  have H1 := Lib.hid hl1
  clear hl1
  go_enter Try.func9, Try.ntmps9
  go_wp2_with fail
  have hA := (Below.refl w.heap.size w).alloc (Nat.le_refl _) (.cells #[.int .u8 1, .int .u8 2, .int .u8 3] 5)
  have HA := Lib.hid hA
  clear hA
  refine (new_calls (l := [1, 2, 3]) rfl (by simp) (H1.out.more (by simp)) (by simp)).mono ?_
  rintro e w1 ⟨g, rfl, hW, hb1⟩
  have HB1 := Lib.hid (HA.out.trans (hb1.mono HA.out.size))
  have HW1 := Lib.hid hW
  clear hW hb1 H1 HA
  go_wp2_with fail
  have hA2 := (Below.refl w1.heap.size w1).alloc (Nat.le_refl _) (.cells #[.int .u8 1, .int .u8 2, .int .u8 3] 5)
  have hl2 := ReadB.litN w1 5 [.int .u8 1, .int .u8 2, .int .u8 3] [1, 2, 3] w1.heap.size rfl rfl
  refine (sum_calls (l := [1, 2, 3]) rfl hl2 (by simp)).mono ?_
  rw [Q3.out]
  rintro e w2 ⟨rfl, rfl⟩
  have HW2 := Lib.hid (HW1.out.below hA2)
  have HB2 := Lib.hid (bthen HB1.out hA2)
  clear hA2 hl2 HW1 HB1
  generalize w1.alloc (.cells #[.int .u8 1, .int .u8 2, .int .u8 3] 5) = V at *
  have hs0 : (w.alloc (.cells #[.int .u8 1, .int .u8 2, .int .u8 3] 5)).heap.size = w.heap.size + 1 := by simp
  rw [hs0] at HW2
  clear hs0
  go_wp2_with fail
  refine (roll_calls (x := 1) (l := [2, 3]) HW2.out 4 (by simp)).mono ?_
  rintro e w3 ⟨rfl, hW3, hb3⟩
  have HW3 : Hid (IsW w3 (w.heap.size + 1) g [2, 3, 4]) := Lib.hid hW3
  have HB3 := Lib.hid (HB2.out.trans (hb3.mono (Nat.le_succ _)))
  clear hW3 hb3 HW2 HB2
  go_wp2_with fail
  refine (wsum_calls HW3.out).mono ?_
  rw [Q4.out]
  rintro e w4 ⟨rfl, rfl⟩
  go_wp2_with fail
  refine (wlen_calls HW3.out).mono ?_
  rintro e w4 ⟨rfl, rfl⟩
  go_wp2_with fail
  have hA2 := (Below.refl w3.heap.size w3).alloc (Nat.le_refl _) (.cells #[.int .u8 1, .int .u8 2, .int .u8 3] 5)
  have hl2 := ReadB.litN w3 5 [.int .u8 1, .int .u8 2, .int .u8 3] [1, 2, 3] w3.heap.size rfl rfl
  refine (pair_calls (l := [1, 2, 3]) rfl hl2 (by simp)).mono ?_
  rw [Q1.out, Q2.out]
  rintro e w2 ⟨rfl, rfl⟩
  have HB4 := Lib.hid (bthen HB3.out hA2)
  clear hA2 hl2 HB3
  generalize w3.alloc (.cells #[.int .u8 1, .int .u8 2, .int .u8 3] 5) = V2 at *
  have n1 : ∀ w, (binOp .eql 26 (C ((6 : Nat) : Int) ((10 : Nat) : Int)) (.complex .f64 4618441417868443648 4621819117588971520)).run Try.prog w = .ok (.bool true) w := fun w => by rw [C_lit]; exact N1.out w
  have n2 : ∀ w, (eqGuard .eql 26 (.tmp 27) (.const (.complex .f64 4618441417868443648 4621819117588971520)) (C ((6 : Nat) : Int) ((10 : Nat) : Int)) (.complex .f64 4618441417868443648 4621819117588971520)).run Try.prog w = .ok () w := fun w => rfl
  have hc : (Value.complex .f64 4618441417868443648 4621819117588971520) = C 6 10 := C_lit
  have Hc := Lib.hid hc
  clear hc
  obtain ⟨Z, hZ⟩ : ∃ Z, Z = C ((6 : Nat) : Int) ((10 : Nat) : Int) := ⟨_, rfl⟩
  rw [← hZ] at n1 n2 ⊢
  clear hZ
  go_wp2_with fail
  rw [Hc.out]
  refine (Hp.out _).mono ?_
  rintro e w5 ⟨rfl, rfl⟩
  go_wp2_with fail
  go_ret
  exact ⟨rfl, HB4.out⟩
end Ro
end Go.Proofs.Ytcbkhbnemhkheaa
