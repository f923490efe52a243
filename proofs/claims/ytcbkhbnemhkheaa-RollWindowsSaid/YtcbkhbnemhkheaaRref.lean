/- Halves, Sum, Pack of the document's answer. -/
import Derived.Test.YtcbkhbnemhkheaaRpair
namespace Go.Proofs.Ytcbkhbnemhkheaa
namespace Ro
open Go.RowKit Flo Ba
set_option linter.unusedVariables false
set_option maxRecDepth 100000 in
set_option maxHeartbeats 1000000 in
theorem halves_calls {l : List UInt8} {A : Option Addr} {n c B : Nat} {w : World} (hn : n = l.length) (hr : ReadB w B A l) (hm : l.length ≤ 140737488355328) : Calls Try.prog 10 #[.slice A n c] w fun e w' => e = .returned (.tuple #[.int .i64 (ha l : Nat), .int .i64 (hb l : Nat)]) ∧ w = w' := by
  subst hn
  have Hr := Lib.hid hr
  clear hr
  go_enter Try.func10, Try.ntmps10
  go_wp2_with fail
  go_loop [4, 5, 6] (fun x y i => ∃ k : Nat, k ≤ l.length ∧ i = .int .i64 k ∧ x = .int .i64 (ha (l.take k) : Nat) ∧ y = .int .i64 (yk l k : Nat)) (fun _ _ i => l.length - (intOf i).toNat)
  case atStart => exact ⟨0, Nat.zero_le _, rfl, rfl, by rw [yk_zero]; rfl⟩
  case round =>
    obtain ⟨k, hk, rfl, rfl, rfl⟩ := hrel
    by_cases hlt : k < l.length
    · obtain ⟨b, o, rfl, _, hc⟩ := Hr.out (by omega)
      have hck := hc k hlt
      have h1 := ha_take l k hlt
      have h2 := yk_succ l k hlt
      have h3 := ha_lt (l.take k)
      have h4 : yk l k < 65536 := Nat.mod_lt _ (by omega)
      have h5 := (l.getD k 0).toNat_lt
      generalize (l.getD k 0).toNat = x at *
      generalize ha (l.take k) = a at *
      generalize yk l k = y at *
      have H1 := Lib.hid h1
      have H2 := Lib.hid h2
      have m1 : ((l.length - k) % 65536 : Nat) < 65536 := Nat.mod_lt _ (by omega)
      have m2 : ((l.length : Int) - (k : Int)) % 65536 = (((l.length - k) % 65536 : Nat) : Int) := by omega
      obtain ⟨q, hq⟩ : ∃ q : Nat, q = (l.length - k) % 65536 := ⟨_, rfl⟩
      rw [← hq] at m1 m2
      have m3 : q * x < 65536 * 256 := Nat.mul_lt_mul_of_lt_of_lt m1 h5
      have m4 : (q : Int) * (x : Int) = ((q * x : Nat) : Int) := by rw [Int.natCast_mul]
      obtain ⟨p, hp⟩ : ∃ p : Nat, p = q * x := ⟨_, rfl⟩
      rw [← hp] at m3 m4
      have HP := Lib.hid hp
      have HQ := Lib.hid hq
      have hkk : (k : Int) ≤ (l.length : Int) := by omega
      clear hc h1 h2 hq hp
      go_wp2_with fail
      go_round
      case rel =>
        refine ⟨k + 1, by omega, by go_num, ?_, ?_⟩
        · rw [H1.out]; simp
        · rw [H2.out, ← HQ.out, ← HP.out]; simp
      case measure => simp [intOf]; omega
    · have hkk : k = l.length := by omega
      subst hkk
      rw [List.take_length, yk_all]
      go_wp2_with fail
      go_ret2
      exact ⟨rfl, rfl⟩
set_option maxRecDepth 100000 in
set_option maxHeartbeats 1000000 in
theorem rsum_calls {l : List UInt8} {A : Option Addr} {n c B : Nat} {w : World} (hn : n = l.length) (hr : ReadB w B A l) (hm : l.length ≤ 140737488355328) : Calls Try.prog 13 #[.slice A n c] w fun e w' => e = .returned (.int .u32 (rsum l : Nat)) ∧ w = w' := by
  have h1 := ha_lt l
  have h2 := hb_lt l
  have he : ((65536 : Int) * (hb l : Int) + (ha l : Int)) = ((rsum l : Nat) : Int) := by unfold rsum; omega
  have He := Lib.hid he
  have Hq := Lib.hid (halves_calls (c := c) hn hr hm)
  generalize ha l = a at *
  generalize hb l = b at *
  clear hr he hn
  go_enter Try.func13, Try.ntmps13
  go_wp2_with fail
  refine Hq.out.mono ?_
  rintro e w1 ⟨rfl, rfl⟩
  go_wp2_with fail
  go_ret
  exact ⟨by rw [← He.out]; rfl, rfl⟩
set_option maxRecDepth 100000 in
set_option maxHeartbeats 1000000 in
theorem rmod_calls (a : Int) (h1 : -9223372036854775808 ≤ a) (h2 : a ≤ 9223372036854775807) (w : World) : Calls Try.prog 26 #[.int .i64 a] w fun e w' => e = .returned (.int .i64 (a % 65536)) ∧ w = w' := by
  have hm := whole_mod a
  have Hm := Lib.hid hm
  have hlo : -65536 < a.tmod 65536 := Int.lt_tmod_of_pos a (by omega)
  have hhi : a.tmod 65536 < 65536 := Int.tmod_lt_of_pos a (by omega)
  clear hm
  go_enter Try.func26, Try.ntmps26
  go_wp2_with fail
  all_goals
    go_ret
    exact ⟨by rw [← Hm.out]; first | (rw [if_pos (by assumption)]; rfl) | (rw [if_neg (by omega)]; rfl), rfl⟩
/-- what is packed -/
def pk (x y : Int) : Int := if x < -1125899906842624 ∨ 1125899906842624 < x ∨ y < -1125899906842624 ∨ 1125899906842624 < y then 0 else y % 65536 * 65536 + x % 65536
set_option maxRecDepth 100000 in
set_option maxHeartbeats 1000000 in
theorem rpack_calls (x y : Int) (h1 : -9223372036854775808 ≤ x) (h2 : x ≤ 9223372036854775807) (h3 : -9223372036854775808 ≤ y) (h4 : y ≤ 9223372036854775807) (w : World) : Calls Try.prog 15 #[.int .i64 x, .int .i64 y] w fun e w' => e = .returned (.int .u32 (pk x y)) ∧ w = w' := by
  have Hx := Lib.hid (rmod_calls x h1 h2 w)
  have Hy := Lib.hid (rmod_calls y h3 h4 w)
  have k1 := Int.emod_nonneg x (show (65536 : Int) ≠ 0 by omega)
  have k2 := Int.emod_lt_of_pos x (show (0 : Int) < 65536 by omega)
  have k3 := Int.emod_nonneg y (show (65536 : Int) ≠ 0 by omega)
  have k4 := Int.emod_lt_of_pos y (show (0 : Int) < 65536 by omega)
  by_cases hb : x < -1125899906842624 ∨ 1125899906842624 < x ∨ y < -1125899906842624 ∨ 1125899906842624 < y
  · have hp : pk x y = 0 := by rw [pk, if_pos hb]
    have Hp := Lib.hid hp
    have Hbb := Lib.hid hb
    clear hp hb Hx Hy k1 k2 k3 k4
    by_cases c1 : x < -1125899906842624
    · have g1 : decide (x < -1125899906842624) = true := by rw [decide_eq_true_eq]; exact c1
      go_enter Try.func15, Try.ntmps15
      go_wp2_with fail
      go_ret
      exact ⟨by rw [Hp.out]; rfl, rfl⟩
    have g1 : decide (x < -1125899906842624) = false := by rw [decide_eq_false_iff_not]; exact c1
    by_cases c2 : 1125899906842624 < x
    · have g2 : decide (1125899906842624 < x) = true := by rw [decide_eq_true_eq]; exact c2
      go_enter Try.func15, Try.ntmps15
      go_wp2_with fail
      go_ret
      exact ⟨by rw [Hp.out]; rfl, rfl⟩
    have g2 : decide (1125899906842624 < x) = false := by rw [decide_eq_false_iff_not]; exact c2
    by_cases c3 : y < -1125899906842624
    · have g3 : decide (y < -1125899906842624) = true := by rw [decide_eq_true_eq]; exact c3
      go_enter Try.func15, Try.ntmps15
      go_wp2_with fail
      go_ret
      exact ⟨by rw [Hp.out]; rfl, rfl⟩
    have g3 : decide (y < -1125899906842624) = false := by rw [decide_eq_false_iff_not]; exact c3
    have c4 : 1125899906842624 < y := by
      rcases Hbb.out with h | h | h | h
      · exact absurd h c1
      · exact absurd h c2
      · exact absurd h c3
      · exact h
    have g4 : decide (1125899906842624 < y) = true := by rw [decide_eq_true_eq]; exact c4
    go_enter Try.func15, Try.ntmps15
    go_wp2_with fail
    go_ret
    exact ⟨by rw [Hp.out]; rfl, rfl⟩
  · have hp : pk x y = 65536 * (y % 65536) + x % 65536 := by rw [pk, if_neg hb]; omega
    have Hp := Lib.hid hp
    have g1 : decide (x < -1125899906842624) = false := by rw [decide_eq_false_iff_not]; exact fun h => hb (.inl h)
    have g2 : decide (1125899906842624 < x) = false := by rw [decide_eq_false_iff_not]; exact fun h => hb (.inr (.inl h))
    have g3 : decide (y < -1125899906842624) = false := by rw [decide_eq_false_iff_not]; exact fun h => hb (.inr (.inr (.inl h)))
    have g4 : decide (1125899906842624 < y) = false := by rw [decide_eq_false_iff_not]; exact fun h => hb (.inr (.inr (.inr h)))
    rw [Hp.out]
    generalize x % 65536 = a at *
    generalize y % 65536 = b at *
    clear hp hb Hp
    go_enter Try.func15, Try.ntmps15
    go_wp2_with fail
    refine Hy.out.mono ?_
    rintro e w1 ⟨rfl, rfl⟩
    go_wp2_with fail
    refine Hx.out.mono ?_
    rintro e w1 ⟨rfl, rfl⟩
    go_wp2_with fail
    go_ret
    exact ⟨rfl, rfl⟩
end Ro
end Go.Proofs.Ytcbkhbnemhkheaa
