/- Any bytes have the pair and the sum that the document says; any two whole numbers make the sum that the document says: the walks of the statements. -/
import Derived.Test.YtcbkhbnemhkheaaRawk
namespace Go.Proofs.Ytcbkhbnemhkheaa
namespace Ro
open Go.RowKit Flo Ba
set_option linter.unusedVariables false
attribute [local go_sem] real_C imag_C complex_F complex_F0 complex_0F complex_1F eqGuard_F eqGuard_C fold_F
set_option maxRecDepth 100000 in
set_option maxHeartbeats 2000000 in
theorem rollSums_calls (l : List UInt8) (A : Option Addr) (c : Nat) (hc : l.length ≤ c) (w : World) (hr : ReadB w w.heap.size A l) : Calls Try.prog 3 #[.slice A l.length c] w fun e w' => e = .returned (.bool true) ∧ Below w.heap.size w w' := by
  have Hr := Lib.hid hr
  clear hr
  by_cases h1 : 5000 < l.length
  · have g1 : decide (5000 < (l.length : Int)) = true := by rw [decide_eq_true_eq]; omega
    go_enter Try.func3, Try.ntmps3
    go_wp2_with fail
    refine (awake_calls w).mono ?_
    rintro e w1 ⟨rfl, hb⟩
    have Hb := Lib.hid hb
    clear hb
    go_wp2_with fail
    go_ret
    exact ⟨rfl, Hb.out⟩
  have g1 : decide (5000 < (l.length : Int)) = false := by rw [decide_eq_false_iff_not]; omega
  have H1 := Lib.hid (halves_calls (n := l.length) (c := c) rfl Hr.out (by omega))
  have H2 := Lib.hid (pair_calls (n := l.length) (c := c) rfl Hr.out (by omega))
  have H3 := Lib.hid (sum_calls (n := l.length) (c := c) rfl Hr.out (by omega))
  have H4 := Lib.hid (rsum_calls (n := l.length) (c := c) rfl Hr.out (by omega))
  have q1 := ha_lt l
  have q2 := hb_lt l
  generalize rsum l = s at *
  generalize ha l = a at *
  generalize hb l = b at *
  have n1 : ∀ w, (binOp .eql 28 (F (a : Int)) (F (a : Int))).run Try.prog w = .ok (.bool true) w := fun w => by rw [f_eql _ _ _ (ok53_nat (by omega) (by omega)) (ok53_nat (by omega) (by omega))]; simp
  have n2 : ∀ w, (binOp .eql 28 (F (b : Int)) (F (b : Int))).run Try.prog w = .ok (.bool true) w := fun w => by rw [f_eql _ _ _ (ok53_nat (by omega) (by omega)) (ok53_nat (by omega) (by omega))]; simp
  go_enter Try.func3, Try.ntmps3
  go_wp2_with fail
  refine H1.out.mono ?_
  rintro e w1 ⟨rfl, rfl⟩
  go_wp2_with fail
  refine H2.out.mono ?_
  rintro e w1 ⟨rfl, rfl⟩
  go_wp2_with fail
  refine H3.out.mono ?_
  rintro e w1 ⟨rfl, rfl⟩
  go_wp2_with fail
  refine H4.out.mono ?_
  rintro e w1 ⟨rfl, rfl⟩
  go_wp2_with fail
  refine (awake_calls w).mono ?_
  rintro e w1 ⟨rfl, hb⟩
  have Hb := Lib.hid hb
  clear hb
  go_wp2_with fail
  go_ret
  exact ⟨rfl, Hb.out⟩
set_option maxRecDepth 100000 in
set_option maxHeartbeats 1000000 in
theorem whole_far (a : Int) (hok : ok53 a) (hfar : a < -1125899906842624 ∨ 1125899906842624 < a) (w : World) : Calls Try.prog 25 #[F a] w fun e w' => e = .returned (.tuple #[.int .u32 0, .bool false]) ∧ w = w' := by
  have n1 : ∀ w, (binOp .neq 28 (F a) (F a)).run Try.prog w = .ok (.bool false) w := fun w => by rw [f_neq _ _ _ hok hok]; simp
  have n2 : ∀ w, (binOp .lss 28 (F a) (.float .f64 14055734437023318016)).run Try.prog w = .ok (.bool (decide (a < -1125899906842624))) w := fun w => by
    have := f_lss 28 a (-1125899906842624) hok (ok53_of (by omega) (by omega))
    unfold F at this ⊢
    rw [FL_m] at this
    rw [this]
    rfl
  have n3 : ∀ w, (binOp .gtr 28 (F a) (.float .f64 4832362400168542208)).run Try.prog w = .ok (.bool (decide (1125899906842624 < a))) w := fun w => by
    have := f_gtr 28 a 1125899906842624 hok (ok53_of (by omega) (by omega))
    unfold F at this ⊢
    rw [FL_p] at this
    rw [this]
    rfl
  have Ht := Lib.hid (fun w => trunc_calls a hok w)
  clear hok
  by_cases c1 : a < -1125899906842624
  · have g1 : decide (a < -1125899906842624) = true := by rw [decide_eq_true_eq]; exact c1
    go_enter Try.func25, Try.ntmps25
    go_wp2_with fail
    refine (Ht.out _).mono ?_
    rintro e w1 ⟨rfl, rfl⟩
    go_wp2_with fail
    go_ret2
    exact ⟨rfl, rfl⟩
  · have g1 : decide (a < -1125899906842624) = false := by rw [decide_eq_false_iff_not]; exact c1
    have g2 : decide (1125899906842624 < a) = true := by
      rw [decide_eq_true_eq]
      rcases hfar with h | h
      · exact absurd h c1
      · exact h
    go_enter Try.func25, Try.ntmps25
    go_wp2_with fail
    refine (Ht.out _).mono ?_
    rintro e w1 ⟨rfl, rfl⟩
    go_wp2_with fail
    go_ret2
    exact ⟨rfl, rfl⟩
theorem whole_any (a : Int) (hok : ok53 a) (w : World) : ∃ r ok, (∀ w, Calls Try.prog 25 #[F a] w fun e w' => e = .returned (.tuple #[.int .u32 r, .bool ok]) ∧ w = w') ∧ ((ok = false ∧ r = 0 ∧ (a < -1125899906842624 ∨ 1125899906842624 < a)) ∨ (ok = true ∧ r = a % 65536 ∧ -1125899906842624 ≤ a ∧ a ≤ 1125899906842624)) := by
  by_cases h : a < -1125899906842624 ∨ 1125899906842624 < a
  · exact ⟨0, false, fun w => whole_far a hok h w, .inl ⟨rfl, rfl, h⟩⟩
  · exact ⟨_, true, fun w => whole_calls a (by omega) (by omega) w, .inr ⟨rfl, rfl, by omega, by omega⟩⟩
set_option maxRecDepth 100000 in
set_option maxHeartbeats 1000000 in
theorem pack_any (a b : Int) (ha : ok53 a) (hb : ok53 b) (w : World) : Calls Try.prog 14 #[C a b] w fun e w' => e = .returned (.int .u32 (pk a b)) ∧ w = w' := by
  obtain ⟨r1, k1, c1, h1⟩ := whole_any a ha w
  obtain ⟨r2, k2, c2, h2⟩ := whole_any b hb w
  by_cases hg : k1 = true ∧ k2 = true
  · have i1 : -1125899906842624 ≤ a ∧ a ≤ 1125899906842624 := by
      rcases h1 with h | h
      · rw [h.1] at hg; cases hg.1
      · exact h.2.2
    have i2 : -1125899906842624 ≤ b ∧ b ≤ 1125899906842624 := by
      rcases h2 with h | h
      · rw [h.1] at hg; cases hg.2
      · exact h.2.2
    have hp : pk a b = b % 65536 * 65536 + a % 65536 := by rw [pk, if_neg (by omega)]
    rw [hp]
    exact pack_calls a b i1.1 i1.2 i2.1 i2.2 w
  · have hp : pk a b = 0 := by
      rw [pk, if_pos]
      rcases h1 with h | h
      · rcases h.2.2 with h | h
        · exact .inl h
        · exact .inr (.inl h)
      · rcases h2 with h' | h'
        · rcases h'.2.2 with h' | h'
          · exact .inr (.inr (.inl h'))
          · exact .inr (.inr (.inr h'))
        · exact absurd ⟨h.1, h'.1⟩ hg
    rw [hp]
    have C1 := Lib.hid c1
    have C2 := Lib.hid c2
    have hk : (k1 = false) ∨ (k1 = true ∧ k2 = false) := by
      cases k1 <;> cases k2 <;> simp at hg ⊢
    clear c1 c2 h1 h2 hp hg ha hb
    rcases hk with rfl | ⟨rfl, rfl⟩
    all_goals
      go_enter Try.func14, Try.ntmps14
      go_wp2_with fail
      refine (C1.out _).mono ?_
      rintro e w1 ⟨rfl, rfl⟩
      go_wp2_with fail
      refine (C2.out _).mono ?_
      rintro e w1 ⟨rfl, rfl⟩
      go_wp2_with fail
      go_ret
      exact ⟨rfl, rfl⟩
/-! ### a half -/
theorem real_raw (ts : Array TypeId) (ty : TypeId) (k : FloatKind) (a b : Nat) : Builtin.real_ ts ty #[.complex k a b] = pure (.float k a) := rfl
theorem imag_raw (ts : Array TypeId) (ty : TypeId) (k : FloatKind) (a b : Nat) : Builtin.imag_ ts ty #[.complex k a b] = pure (.float k b) := rfl
theorem complex_half (ts : Array TypeId) (ty : TypeId) (x : Nat) (b : Int) : Builtin.complex_ ts ty #[.float .f64 x, F b] = pure (.complex .f64 x (FL b)) := rfl
attribute [local go_sem] real_raw imag_raw complex_half
theorem half_dec : FloatKind.f64.decode 4602678819172646912 = .number false 4503599627370496 (-53) := by decide +kernel
theorem half_int : FloatKind.f64.encode (Ieee.Datum.integral .zero (.number false 4503599627370496 (-53))) = 0 := by decide +kernel
theorem half_ord : FloatKind.f64.format.order 4602678819172646912 0 = some .gt := by decide +kernel
set_option maxRecDepth 100000 in
set_option maxHeartbeats 400000 in
theorem trunc_half (w : World) : Calls Try.prog 30 #[.float .f64 4602678819172646912] w fun e w' => e = .returned (.float .f64 0) ∧ w = w' := by
  have hx := ext_trunc #[.float .f64 4602678819172646912] w
  rw [toIntegral_num _ _ _ _ half_dec, half_int] at hx
  go_enter Try.func30, Try.ntmps30
  go_wp2_with fail
  go_ret
  exact ⟨rfl, rfl⟩
set_option maxRecDepth 100000 in
set_option maxHeartbeats 400000 in
theorem whole_half (w : World) : Calls Try.prog 25 #[.float .f64 4602678819172646912] w fun e w' => e = .returned (.tuple #[.int .u32 0, .bool false]) ∧ w = w' := by
  have n1 : ∀ w, (binOp .neq 28 (.float .f64 4602678819172646912) (.float .f64 0)).run Try.prog w = .ok (.bool true) w := fun w => by
    rw [binOp_float_cmp_neq, half_ord]
    rfl
  obtain ⟨H, hH⟩ : ∃ H, H = Value.float .f64 4602678819172646912 := ⟨_, rfl⟩
  have Ht := Lib.hid trunc_half
  go_enter Try.func25, Try.ntmps25
  go_wp2_with fail
  refine (Ht.out _).mono ?_
  rintro e w1 ⟨rfl, rfl⟩
  go_wp2_with fail
  all_goals
    go_ret2
    exact ⟨rfl, rfl⟩
set_option maxRecDepth 100000 in
set_option maxHeartbeats 1000000 in
theorem pack_half (b : Int) (hb : ok53 b) (w : World) : Calls Try.prog 14 #[.complex .f64 4602678819172646912 (FL b)] w fun e w' => e = .returned (.int .u32 0) ∧ w = w' := by
  obtain ⟨r2, k2, c2, h2⟩ := whole_any b hb w
  unfold F at c2
  have C2 := Lib.hid c2
  obtain ⟨X, hX⟩ : ∃ X, X = FL b := ⟨_, rfl⟩
  rw [← hX] at C2 ⊢
  clear c2 h2 hb hX
  go_enter Try.func14, Try.ntmps14
  go_wp2_with fail
  refine (whole_half _).mono ?_
  rintro e w1 ⟨rfl, rfl⟩
  go_wp2_with fail
  refine (C2.out _).mono ?_
  rintro e w1 ⟨rfl, rfl⟩
  go_wp2_with fail
  go_ret
  exact ⟨rfl, rfl⟩
set_option maxRecDepth 100000 in
set_option maxHeartbeats 2000000 in
theorem rollPacks_calls (x y : Int) (w : World) : Calls Try.prog 4 #[.int .i64 x, .int .i64 y] w fun e w' => e = .returned (.bool true) ∧ Below w.heap.size w w' := by
  have a1 : -2251799813685248 < x.tmod 2251799813685248 := Int.lt_tmod_of_pos x (by omega)
  have a2 : x.tmod 2251799813685248 < 2251799813685248 := Int.tmod_lt_of_pos x (by omega)
  have b1 : -2251799813685248 < y.tmod 2251799813685248 := Int.lt_tmod_of_pos y (by omega)
  have b2 : y.tmod 2251799813685248 < 2251799813685248 := Int.tmod_lt_of_pos y (by omega)
  obtain ⟨a, ha⟩ : ∃ a, a = x.tmod 2251799813685248 := ⟨_, rfl⟩
  obtain ⟨b, hb⟩ : ∃ b, b = y.tmod 2251799813685248 := ⟨_, rfl⟩
  rw [← ha] at a1 a2
  rw [← hb] at b1 b2
  have Ha := Lib.hid ha
  have Hb := Lib.hid hb
  have H1 := Lib.hid (fun w => pack_any a b (ok53_of (by omega) (by omega)) (ok53_of (by omega) (by omega)) w)
  have H2 := Lib.hid (fun w => rpack_calls a b (by omega) (by omega) (by omega) (by omega) w)
  have H3 := Lib.hid (fun w => pack_half b (ok53_of (by omega) (by omega)) w)
  clear ha hb
  go_enter Try.func4, Try.ntmps4
  go_wp2_with fail
  rw [← Ha.out, ← Hb.out]
  obtain ⟨q, hq⟩ : ∃ q, q = pk a b := ⟨_, rfl⟩
  rw [← hq] at H1 H2
  clear hq
  refine (H1.out _).mono ?_
  rintro e w1 ⟨rfl, rfl⟩
  go_wp2_with fail
  refine (H2.out _).mono ?_
  rintro e w1 ⟨rfl, rfl⟩
  go_wp2_with fail
  refine (H3.out _).mono ?_
  rintro e w1 ⟨rfl, rfl⟩
  go_wp2_with fail
  refine (awake_calls w).mono ?_
  rintro e w1 ⟨rfl, hb⟩
  have Hbb := Lib.hid hb
  clear hb
  go_wp2_with fail
  go_ret
  exact ⟨rfl, Hbb.out⟩
end Ro
end Go.Proofs.Ytcbkhbnemhkheaa
