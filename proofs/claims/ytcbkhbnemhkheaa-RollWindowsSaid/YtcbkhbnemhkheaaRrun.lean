/- What the operations on floats and complex numbers do where all parts are whole numbers. -/
import Derived.Test.YtcbkhbnemhkheaaRflo
import Derived.Laws.Cover2
namespace Go.Proofs.Ytcbkhbnemhkheaa
namespace Flo
set_option linter.unusedVariables false
def F (a : Int) : Value := .float .f64 (FL a)
def C (a b : Int) : Value := .complex .f64 (FL a) (FL b)
def ok53 (a : Int) : Prop := a.natAbs < 9007199254740992
theorem bin_c (op : BinOp) (t : TypeId) (a b c d : Int) : binOp op t (C a b) (C c d) = Op.complexOp op .f64 (FL a) (FL b) (FL c) (FL d) := by
  cases op <;> rfl
theorem arith_add (a c : Int) (ha : ok53 a) (hc : ok53 c) (hs : ok53 (a + c)) : Op.Complex.arith .add .f64 (FL a) (FL c) = pure (FL (a + c)) := by
  unfold Op.Complex.arith Op.floatArith
  have : FloatKind.f64.format.add (FL a) (FL c) = some (FL (a + c)) := add_FL a c ha hc hs
  simp [this]
theorem arith_sub (a c : Int) (ha : ok53 a) (hc : ok53 c) (hs : ok53 (a - c)) : Op.Complex.arith .sub .f64 (FL a) (FL c) = pure (FL (a - c)) := by
  unfold Op.Complex.arith Op.floatArith
  have : FloatKind.f64.format.sub (FL a) (FL c) = some (FL (a - c)) := sub_FL a c ha hc hs
  simp [this]
theorem arith_mul (a c : Int) (ha : ok53 a) (hc : ok53 c) (h0 : 0 ≤ a) (h1 : 0 ≤ c) (hs : ok53 (a * c)) : Op.Complex.arith .mul .f64 (FL a) (FL c) = pure (FL (a * c)) := by
  unfold Op.Complex.arith Op.floatArith
  have : FloatKind.f64.format.mul (FL a) (FL c) = some (FL (a * c)) := mul_FL a c ha hc h0 h1 hs
  simp [this]
theorem c_add (t : TypeId) (a b c d : Int) (ha : ok53 a) (hb : ok53 b) (hc : ok53 c) (hd : ok53 d) (h1 : ok53 (a + c)) (h2 : ok53 (b + d)) : binOp .add t (C a b) (C c d) = pure (C (a + c) (b + d)) := by
  rw [bin_c]
  unfold Op.complexOp
  simp only [arith_add a c ha hc h1, arith_add b d hb hd h2]
  rfl
theorem c_sub (t : TypeId) (a b c d : Int) (ha : ok53 a) (hb : ok53 b) (hc : ok53 c) (hd : ok53 d) (h1 : ok53 (a - c)) (h2 : ok53 (b - d)) : binOp .sub t (C a b) (C c d) = pure (C (a - c) (b - d)) := by
  rw [bin_c]
  unfold Op.complexOp
  simp only [arith_sub a c ha hc h1, arith_sub b d hb hd h2]
  rfl
/-- a whole number times '1 + n i' -/
theorem c_mul1 (t : TypeId) (a n : Int) (ha : ok53 a) (hn : ok53 n) (h0 : 0 ≤ a) (h1 : 0 ≤ n) (h2 : ok53 (a * n)) : binOp .mul t (C a 0) (C 1 n) = pure (C a (a * n)) := by
  rw [bin_c]
  have z : ok53 0 := by unfold ok53; decide
  have o : ok53 1 := by unfold ok53; decide
  have e1 := arith_mul a 1 ha o h0 (by omega) (by rw [Int.mul_one]; exact ha)
  have e2 := arith_mul 0 n z hn (by omega) h1 (by rw [Int.zero_mul]; exact z)
  have e3 := arith_sub a 0 ha z (by rw [Int.sub_zero]; exact ha)
  have e4 := arith_mul a n ha hn h0 h1 h2
  have e5 := arith_mul 0 1 z o (by omega) (by omega) (by rw [Int.zero_mul]; exact z)
  have e6 := arith_add (a * n) 0 h2 z (by rw [Int.add_zero]; exact h2)
  rw [Int.mul_one] at e1
  rw [Int.zero_mul] at e2 e5
  rw [Int.sub_zero] at e3
  rw [Int.add_zero] at e6
  unfold Op.complexOp Op.Complex.conv Op.Complex.product Op.Complex.mul Op.Complex.sub Op.Complex.add
  simp [e1, e2, e3, e4, e5, e6]
  rfl
theorem order_F (a b : Int) (ha : ok53 a) (hb : ok53 b) : FloatKind.f64.format.order (FL a) (FL b) = some (compare a b) := order_FL a b ha hb
theorem cmp_eq (a b : Int) : (compare a b = .eq) ↔ a = b := by
  show compareOfLessAndEq a b = .eq ↔ _
  unfold compareOfLessAndEq
  by_cases h : a < b
  · simp [h]; omega
  · by_cases h2 : a = b <;> simp [h, h2]
theorem cmp_lt (a b : Int) : (compare a b = .lt) ↔ a < b := by
  show compareOfLessAndEq a b = .lt ↔ _
  unfold compareOfLessAndEq
  by_cases h : a < b
  · simp [h]
  · by_cases h2 : a = b <;> simp [h, h2]
theorem cmp_gt (a b : Int) : (compare a b = .gt) ↔ b < a := by
  show compareOfLessAndEq a b = .gt ↔ _
  unfold compareOfLessAndEq
  by_cases h : a < b
  · simp [h]; omega
  · by_cases h2 : a = b
    · simp [h2]
    · simp [h, h2]; omega
theorem f_neq (t : TypeId) (a b : Int) (ha : ok53 a) (hb : ok53 b) : binOp .neq t (F a) (F b) = pure (.bool (decide (a ≠ b))) := by
  unfold F
  rw [binOp_float_cmp_neq, order_F a b ha hb]
  congr 2
  rw [Bool.eq_iff_iff]
  simp [cmp_eq]
theorem f_eql (t : TypeId) (a b : Int) (ha : ok53 a) (hb : ok53 b) : binOp .eql t (F a) (F b) = pure (.bool (decide (a = b))) := by
  unfold F
  rw [binOp_float_cmp_eql, order_F a b ha hb]
  congr 2
  rw [Bool.eq_iff_iff]
  simp [cmp_eq]
theorem f_lss (t : TypeId) (a b : Int) (ha : ok53 a) (hb : ok53 b) : binOp .lss t (F a) (F b) = pure (.bool (decide (a < b))) := by
  unfold F
  rw [binOp_float_cmp_lss, order_F a b ha hb]
  congr 2
  rw [Bool.eq_iff_iff]
  simp [cmp_lt]
theorem f_gtr (t : TypeId) (a b : Int) (ha : ok53 a) (hb : ok53 b) : binOp .gtr t (F a) (F b) = pure (.bool (decide (b < a))) := by
  unfold F
  rw [binOp_float_cmp_gtr, order_F a b ha hb]
  congr 2
  rw [Bool.eq_iff_iff]
  simp [cmp_gt]
section
variable {P : Program} (w : World)
theorem run_int_of (src dst : TypeId) (a : Int) (ha : ok53 a) (hs : (P.underlying src).isSome = true) (hd : P.underlying dst = some (.int .i64)) : (convert src dst (F a)).run P w = .ok (.int .i64 a) w := by
  refine run_convert_float_int (P := P) w src dst .f64 .i64 (FL a) a hs hd ?_
  unfold floatToIntVal
  have : (FloatKind.f64.decode (FL a)).toInt .zero = some a := toInt_FL a ha
  rw [this]
  have h : IntKind.i64.min ≤ a ∧ a ≤ IntKind.i64.max := by
    unfold ok53 at ha
    show (-9223372036854775808 : Int) ≤ a ∧ a ≤ 9223372036854775807
    omega
  show (if IntKind.i64.min ≤ a ∧ a ≤ IntKind.i64.max then some a else none) = some a
  rw [if_pos h]
theorem run_of_int (src dst : TypeId) (q : IntKind) (a : Int) (hs : (P.underlying src).isSome = true) (hd : P.underlying dst = some (.float .f64)) : (convert src dst (.int q a)).run P w = .ok (F a) w := by
  exact run_convert_int_float (P := P) w src dst q .f64 a hs hd
end
end Flo
end Go.Proofs.Ytcbkhbnemhkheaa
