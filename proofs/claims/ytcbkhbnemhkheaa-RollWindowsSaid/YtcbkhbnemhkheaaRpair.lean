/- Pair, Pack, Sum of the program; Halves, Sum, Pack of the document's answer. -/
import Derived.Test.YtcbkhbnemhkheaaRcore
namespace Go.Proofs.Ytcbkhbnemhkheaa
namespace Ro
open Go.RowKit Flo Ba
set_option linter.unusedVariables false
attribute [local go_sem] real_C imag_C complex_F complex_F0 complex_0F complex_1F eqGuard_F eqGuard_C fold_F
theorem C_00 : C 0 0 = .complex .f64 0 0 := by unfold C; rw [FL_0]
set_option maxRecDepth 100000 in
set_option maxHeartbeats 1000000 in
theorem pair_calls {l : List UInt8} {A : Option Addr} {n c B : Nat} {w : World} (hn : n = l.length) (hr : ReadB w B A l) (hm : l.length ≤ 9223372036854775807) : Calls Try.prog 11 #[.slice A n c] w fun e w' => e = .returned (C (ha l) (hb l)) ∧ w = w' := by
  subst hn
  have Hr := Lib.hid hr
  clear hr
  go_enter Try.func11, Try.ntmps11
  go_wp2_with fail
  go_loop [3, 5, 8] (fun p _ i => ∃ k : Nat, k ≤ l.length ∧ i = .int .i64 k ∧ p = C (ha (l.take k)) (hb (l.take k))) (fun _ _ i => l.length - (intOf i).toNat)
  case atStart => exact ⟨0, Nat.zero_le _, rfl, C_00.symm⟩
  case round =>
    obtain ⟨k, hk, rfl, rfl⟩ := hrel
    by_cases hlt : k < l.length
    · obtain ⟨b, o, rfl, _, hc⟩ := Hr.out (by omega)
      have hck := hc k hlt
      have e : l.take (k + 1) = l.take k ++ [l.getD k 0] := by
        rw [List.take_succ_eq_append_getElem hlt]
        simp [List.getD, hlt]
      have hadd := add_calls (l.take k) (l.getD k 0) w
      rw [← e] at hadd
      have Hadd := Lib.hid hadd
      generalize l.getD k 0 = x at *
      obtain ⟨a1, h1⟩ : ∃ a1 : Int, a1 = (ha (l.take k) : Int) := ⟨_, rfl⟩
      obtain ⟨b1, h2⟩ : ∃ b1 : Int, b1 = (hb (l.take k) : Int) := ⟨_, rfl⟩
      obtain ⟨a2, h3⟩ : ∃ a1 : Int, a1 = (ha (l.take (k + 1)) : Int) := ⟨_, rfl⟩
      obtain ⟨b2, h4⟩ : ∃ b1 : Int, b1 = (hb (l.take (k + 1)) : Int) := ⟨_, rfl⟩
      rw [← h1, ← h2, ← h3, ← h4] at Hadd
      rw [← h1, ← h2]
      have H3 := Lib.hid h3
      have H4 := Lib.hid h4
      clear hc e hadd h1 h2 h3 h4
      go_wp2_with fail
      refine (Hadd.out).mono ?_
      rintro e w1 ⟨rfl, rfl⟩
      go_wp2_with fail
      go_round
      case rel => exact ⟨k + 1, by omega, by go_num, by rw [H3.out, H4.out]⟩
      case measure => simp [intOf]; omega
    · have hkk : k = l.length := by omega
      subst hkk
      rw [List.take_length]
      go_wp2_with fail
      go_ret
      exact ⟨rfl, rfl⟩
theorem u32_pack (a b : Nat) (h1 : a < 65536) (h2 : b < 65536) : bits .or .u32 ((b : Int) * 65536) (a : Int) = ((b * 65536 + a : Nat) : Int) := by
  have hor : b * 65536 ||| a = b * 65536 + a := by
    have := Nat.shiftLeft_add_eq_or_of_lt (i := 16) (b := a) h1 b
    rw [Nat.shiftLeft_eq] at this
    exact this.symm
  show IntKind.u32.wrap ((BitVec.ofInt 32 ((b : Int) * 65536) ||| BitVec.ofInt 32 (a : Int)).toNat : Int) = _
  rw [BitVec.toNat_or]
  have e1 : (BitVec.ofInt 32 ((b : Int) * 65536)).toNat = b * 65536 := by rw [BitVec.toNat_ofInt]; omega
  have e2 : (BitVec.ofInt 32 (a : Int)).toNat = a := by rw [BitVec.toNat_ofInt]; omega
  rw [e1, e2, hor, IntKind.wrap_u32]
  omega
set_option maxRecDepth 100000 in
set_option maxHeartbeats 1000000 in
theorem pack_calls (a b : Int) (h1 : -1125899906842624 ≤ a) (h2 : a ≤ 1125899906842624) (h3 : -1125899906842624 ≤ b) (h4 : b ≤ 1125899906842624) (w : World) : Calls Try.prog 14 #[C a b] w fun e w' => e = .returned (.int .u32 (b % 65536 * 65536 + a % 65536)) ∧ w = w' := by
  have H1 := Lib.hid (fun w => whole_calls a h1 h2 w)
  have H2 := Lib.hid (fun w => whole_calls b h3 h4 w)
  obtain ⟨a', ha⟩ : ∃ a' : Nat, (a' : Int) = a % 65536 := ⟨(a % 65536).toNat, by rw [Int.toNat_of_nonneg (Int.emod_nonneg _ (by omega))]⟩
  obtain ⟨b', hb⟩ : ∃ b' : Nat, (b' : Int) = b % 65536 := ⟨(b % 65536).toNat, by rw [Int.toNat_of_nonneg (Int.emod_nonneg _ (by omega))]⟩
  rw [← ha] at H1
  rw [← hb] at H2
  have la : a' < 65536 := by omega
  have lb : b' < 65536 := by omega
  rw [← ha, ← hb]
  have hor := u32_pack a' b' la lb
  have hsh : IntKind.u32.wrap ((b' : Int) * 65536) = (b' : Int) * 65536 := by rw [IntKind.wrap_u32]; omega
  have hsh2 : (b' : Int) * 65536 % 4294967296 = (b' : Int) * 65536 := by omega
  clear ha hb h1 h2 h3 h4
  go_enter Try.func14, Try.ntmps14
  go_wp2_with fail
  refine (H1.out _).mono ?_
  rintro e w1 ⟨rfl, rfl⟩
  go_wp2_with fail
  refine (H2.out _).mono ?_
  rintro e w1 ⟨rfl, rfl⟩
  go_wp2_with fail
  go_ret
  exact ⟨by simp, rfl⟩
set_option maxRecDepth 100000 in
set_option maxHeartbeats 1000000 in
theorem sum_calls {l : List UInt8} {A : Option Addr} {n c B : Nat} {w : World} (hn : n = l.length) (hr : ReadB w B A l) (hm : l.length ≤ 9223372036854775807) : Calls Try.prog 12 #[.slice A n c] w fun e w' => e = .returned (.int .u32 (rsum l : Nat)) ∧ w = w' := by
  have Hr := Lib.hid hr
  have h1 := ha_lt l
  have h2 := hb_lt l
  have Hp := Lib.hid (pack_calls (ha l) (hb l) (by omega) (by omega) (by omega) (by omega) w)
  have he : ((hb l : Int) % 65536 * 65536 + (ha l : Int) % 65536) = ((rsum l : Nat) : Int) := by unfold rsum; omega
  rw [he] at Hp
  have Hq := Lib.hid (pair_calls (c := c) hn hr hm)
  generalize (ha l : Int) = a at *
  generalize (hb l : Int) = b at *
  clear hr he h1 h2 hn
  go_enter Try.func12, Try.ntmps12
  go_wp2_with fail
  refine Hq.out.mono ?_
  rintro e w1 ⟨rfl, rfl⟩
  go_wp2_with fail
  refine Hp.out.mono ?_
  rintro e w1 ⟨rfl, rfl⟩
  go_wp2_with fail
  go_ret
  exact ⟨rfl, rfl⟩
end Ro
end Go.Proofs.Ytcbkhbnemhkheaa
