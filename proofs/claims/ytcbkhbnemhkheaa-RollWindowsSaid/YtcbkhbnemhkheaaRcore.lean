/- The checksum that rolls, of the program: whole numbers in floats, a pair and a byte more. -/
import Derived.Test.YtcbkhbnemhkheaaRrun
import Derived.Test.YtcbkhbnemhkheaaRmath
import Derived.Test.YtcbkhbnemhkheaaProg
import Derived.Test.YtcbkhbnemhkheaaClone
import Derived.Deep.LoopGhost
namespace Go.Proofs.Ytcbkhbnemhkheaa
namespace Ro
open Go.RowKit Flo Ba
set_option linter.unusedVariables false
theorem FL_0 : FL 0 = 0 := by decide +kernel
theorem FL_1 : FL 1 = 4607182418800017408 := by decide +kernel
theorem FL_m : FL (-1125899906842624) = 14055734437023318016 := by decide +kernel
theorem FL_p : FL 1125899906842624 = 4832362400168542208 := by decide +kernel
theorem real_C (ts : Array TypeId) (ty : TypeId) (a b : Int) : Builtin.real_ ts ty #[C a b] = pure (F a) := rfl
theorem imag_C (ts : Array TypeId) (ty : TypeId) (a b : Int) : Builtin.imag_ ts ty #[C a b] = pure (F b) := rfl
theorem complex_F (ts : Array TypeId) (ty : TypeId) (a b : Int) : Builtin.complex_ ts ty #[F a, F b] = pure (C a b) := rfl
theorem complex_F0 (ts : Array TypeId) (ty : TypeId) (a : Int) : Builtin.complex_ ts ty #[F a, .float .f64 0] = pure (C a 0) := by
  have := complex_F ts ty a 0
  unfold F at this ⊢
  rw [FL_0] at this
  exact this
theorem complex_0F (ts : Array TypeId) (ty : TypeId) (a : Int) : Builtin.complex_ ts ty #[.float .f64 0, F a] = pure (C 0 a) := by
  have := complex_F ts ty 0 a
  unfold F at this ⊢
  rw [FL_0] at this
  exact this
theorem complex_1F (ts : Array TypeId) (ty : TypeId) (a : Int) : Builtin.complex_ ts ty #[.float .f64 4607182418800017408, F a] = pure (C 1 a) := by
  have := complex_F ts ty 1 a
  unfold F at this ⊢
  rw [FL_1] at this
  exact this
attribute [local go_sem] real_C imag_C complex_F complex_F0 complex_0F complex_1F
theorem run_pure_ok {P : Program} {m : Sem Value} {v : Value} (h : m = pure v) (w : World) : m.run P w = .ok v w := by rw [h]; rfl
theorem ext_trunc (args : Array Value) (w : World) : (callFunc 31 args).run Try.prog w = ((Extern.MathFloor.toIntegral "math.archTrunc" .zero args).run Try.prog w).andThen fun v w' => .ok (.value v) w' :=
  run_callFunc_extern Try.func31 (by kernel_rfl) (by kernel_rfl) (by kernel_rfl) (by kernel_rfl) args w
theorem toIntegral_num (x : Nat) (s : Bool) (m : Nat) (p : Int) (h : FloatKind.f64.decode x = .number s m p) : Extern.MathFloor.toIntegral "math.archTrunc" .zero #[.float .f64 x] = pure (Value.float .f64 (FloatKind.f64.encode (Ieee.Datum.integral .zero (.number s m p)))) := by
  show ((match FloatKind.f64.decode x with
    | .nan s t => if FloatKind.f64.format.quiet t = t then pure (Value.float .f64 x) else do
      let kept ← choose (.extern "math.Floor,Ceil,Trunc,RoundToEven.signallingNaN kept" 2)
      pure (Value.float .f64 (if kept == 1 then x else FloatKind.f64.encode (.nan s (FloatKind.f64.format.quiet t))))
    | d => pure (Value.float .f64 (FloatKind.f64.encode (d.integral .zero)))) : Sem Value) = _
  rw [h]
theorem toIntegral_F (a : Int) (h : ok53 a) (w : World) : (Extern.MathFloor.toIntegral "math.archTrunc" .zero #[F a]).run Try.prog w = .ok (F a) w := by
  have hr := read_FL a h
  have ht := trunc_FL a h
  obtain ⟨s, m, k, e, _, _⟩ := hr
  rw [e] at ht
  have := toIntegral_num (FL a) s m (-(k : Int)) e
  unfold F
  rw [this]
  show Result.ok (Value.float .f64 (Ieee.double.write (Ieee.Datum.integral .zero (.number s m (-(k : Int)))))) w = _
  rw [ht]
set_option maxRecDepth 100000 in
set_option maxHeartbeats 400000 in
theorem trunc_calls (a : Int) (h : ok53 a) (w : World) : Calls Try.prog 30 #[F a] w fun e w' => e = .returned (F a) ∧ w = w' := by
  have hx := ext_trunc #[F a] w
  rw [toIntegral_F a h w] at hx
  go_enter Try.func30, Try.ntmps30
  go_wp2_with fail
  go_ret
  exact ⟨rfl, rfl⟩
theorem ok53_of {a : Int} (h1 : -9007199254740991 ≤ a) (h2 : a ≤ 9007199254740991) : ok53 a := by unfold ok53; omega
theorem whole_mod (a : Int) : (if a.tmod 65536 < 0 then a.tmod 65536 + 65536 else a.tmod 65536) = a % 65536 := by
  have h2 := Int.tmod_eq_emod (a := a) (b := 65536)
  have h4 := Int.emod_nonneg a (show (65536 : Int) ≠ 0 by omega)
  have h5 := Int.emod_lt_of_pos a (show (0 : Int) < 65536 by omega)
  by_cases h : 0 ≤ a ∨ (65536 : Int) ∣ a
  · rw [if_pos h] at h2
    simp only [Int.natCast_zero, Int.sub_zero] at h2
    rw [h2, if_neg (by omega)]
  · rw [if_neg h] at h2
    have h6 : ((Int.natAbs 65536 : Nat) : Int) = 65536 := rfl
    rw [h6] at h2
    rw [h2, if_pos (by omega)]
    omega
theorem eqGuard_F (op : BinOp) (t : TypeId) (x y : Operand) (a b : Int) : eqGuard op t x y (F a) (F b) = pure () := by cases op <;> rfl
theorem eqGuard_C (op : BinOp) (t : TypeId) (x y : Operand) (a b c d : Int) : eqGuard op t x y (C a b) (C c d) = pure () := by cases op <;> rfl
attribute [local go_sem] eqGuard_F eqGuard_C
set_option maxRecDepth 100000 in
set_option maxHeartbeats 1000000 in
theorem whole_calls (a : Int) (h1 : -1125899906842624 ≤ a) (h2 : a ≤ 1125899906842624) (w : World) : Calls Try.prog 25 #[F a] w fun e w' => e = .returned (.tuple #[.int .u32 (a % 65536), .bool true]) ∧ w = w' := by
  have hok : ok53 a := ok53_of (by omega) (by omega)
  have n1 : ∀ w, (binOp .neq 28 (F a) (F a)).run Try.prog w = .ok (.bool false) w := fun w => by rw [f_neq _ _ _ hok hok]; simp
  have n2 : ∀ w, (binOp .lss 28 (F a) (.float .f64 14055734437023318016)).run Try.prog w = .ok (.bool false) w := fun w => by
    have := f_lss 28 a (-1125899906842624) hok (ok53_of (by omega) (by omega))
    unfold F at this ⊢
    rw [FL_m] at this
    rw [this, decide_eq_false (by omega)]
    rfl
  have n3 : ∀ w, (binOp .gtr 28 (F a) (.float .f64 4832362400168542208)).run Try.prog w = .ok (.bool false) w := fun w => by
    have := f_gtr 28 a 1125899906842624 hok (ok53_of (by omega) (by omega))
    unfold F at this ⊢
    rw [FL_p] at this
    rw [this, decide_eq_false (by omega)]
    rfl
  have n4 : ∀ w, (convert 28 2 (F a)).run Try.prog w = .ok (.int .i64 a) w := fun w => run_int_of w _ _ a hok (by kernel_rfl) Try.underlying2
  have hm := whole_mod a
  have Hm := Lib.hid hm
  have Ht := Lib.hid (fun w => trunc_calls a hok w)
  have hlo : -65536 < a.tmod 65536 := Int.lt_tmod_of_pos a (by omega)
  have hhi : a.tmod 65536 < 65536 := Int.tmod_lt_of_pos a (by omega)
  clear hok hm
  go_enter Try.func25, Try.ntmps25
  go_wp2_with fail
  refine (Ht.out _).mono ?_
  rintro e w1 ⟨rfl, rfl⟩
  go_wp2_with fail
  all_goals
    go_ret2
    exact ⟨by rw [← Hm.out]; first | (rw [if_pos (by assumption)]; rfl) | (rw [if_neg (by omega)]; rfl), rfl⟩
theorem fold_F (n : Int) : Value.float .f64 (floatOfInt .f64 n) = F n := rfl
theorem ret_agg {a b : Value} (h : a = b) : Ending.returned a = .returned b := by rw [h]
attribute [local go_sem] fold_F
set_option maxRecDepth 100000 in
set_option maxHeartbeats 400000 in
theorem one_calls (c : Int) (w : World) : Calls Try.prog 29 #[.int .u8 c] w fun e w' => e = .returned (C c 0) ∧ w = w' := by
  go_enter Try.func29, Try.ntmps29
  go_wp2_with fail
  go_ret
  exact ⟨rfl, rfl⟩
set_option maxRecDepth 100000 in
set_option maxHeartbeats 1000000 in
theorem reduce_calls (a b : Int) (h1 : -1125899906842624 ≤ a) (h2 : a ≤ 1125899906842624) (h3 : -1125899906842624 ≤ b) (h4 : b ≤ 1125899906842624) (w : World) : Calls Try.prog 28 #[C a b] w fun e w' => e = .returned (C (a % 65536) (b % 65536)) ∧ w = w' := by
  have H1 := Lib.hid (fun w => whole_calls a h1 h2 w)
  have H2 := Lib.hid (fun w => whole_calls b h3 h4 w)
  obtain ⟨a', ha⟩ : ∃ a', a' = a % 65536 := ⟨_, rfl⟩
  obtain ⟨b', hb⟩ : ∃ b', b' = b % 65536 := ⟨_, rfl⟩
  rw [← ha] at H1
  rw [← hb] at H2
  rw [← ha, ← hb]
  clear ha hb h1 h2 h3 h4
  go_enter Try.func28, Try.ntmps28
  go_wp2_with fail
  refine (H1.out _).mono ?_
  rintro e w1 ⟨rfl, rfl⟩
  go_wp2_with fail
  refine (H2.out _).mono ?_
  rintro e w1 ⟨rfl, rfl⟩
  go_wp2_with fail
  go_ret
  exact ⟨rfl, rfl⟩
set_option maxRecDepth 100000 in
set_option maxHeartbeats 1000000 in
theorem add_calls (l : List UInt8) (x : UInt8) (w : World) : Calls Try.prog 24 #[C (ha l) (hb l), .int .u8 (x.toNat : Int)] w fun e w' => e = .returned (C (ha (l ++ [x])) (hb (l ++ [x]))) ∧ w = w' := by
  have h1 := ha_lt l
  have h2 := hb_lt l
  have h3 := x.toNat_lt
  have e1 := ha_snoc l x
  have e2 := hb_snoc l x
  generalize ha l = a at *
  generalize hb l = b at *
  generalize x.toNat = c at *
  have n1 : ∀ w, (binOp .add 26 (C (a : Int) (b : Int)) (C (c : Int) 0)).run Try.prog w = .ok (C ((a : Int) + c) b) w := fun w => by
    have := c_add 26 (a : Int) b c 0 (ok53_of (by omega) (by omega)) (ok53_of (by omega) (by omega)) (ok53_of (by omega) (by omega)) (ok53_of (by omega) (by omega)) (ok53_of (by omega) (by omega)) (ok53_of (by omega) (by omega))
    rw [this, Int.add_zero]
    rfl
  have n2 : ∀ w, (binOp .add 26 (C ((a : Int) + c) (b : Int)) (C 0 ((a : Int) + c))).run Try.prog w = .ok (C ((a : Int) + c) (b + (a + c))) w := fun w => by
    have := c_add 26 ((a : Int) + c) b 0 (a + c) (ok53_of (by omega) (by omega)) (ok53_of (by omega) (by omega)) (ok53_of (by omega) (by omega)) (ok53_of (by omega) (by omega)) (ok53_of (by omega) (by omega)) (ok53_of (by omega) (by omega))
    rw [this, Int.add_zero]
    rfl
  have H3 := Lib.hid (fun w => reduce_calls ((a : Int) + c) (b + (a + c)) (by omega) (by omega) (by omega) (by omega) w)
  have E1 := Lib.hid e1
  have E2 := Lib.hid e2
  clear e1 e2 h1 h2 h3
  go_enter Try.func24, Try.ntmps24
  go_wp2_with fail
  refine (one_calls _ _).mono ?_
  rintro e w1 ⟨rfl, rfl⟩
  go_wp2_with fail
  refine (H3.out _).mono ?_
  rintro e w1 ⟨rfl, rfl⟩
  go_wp2_with fail
  go_ret
  exact ⟨by rw [E1.out, E2.out]; simp, rfl⟩
end Ro
end Go.Proofs.Ytcbkhbnemhkheaa
