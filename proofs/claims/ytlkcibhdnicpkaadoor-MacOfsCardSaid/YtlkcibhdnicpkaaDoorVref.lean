/- What the reference tells, lays and reads of a number of the wire: the same as the program. -/
import Derived.Test.YtlkcibhdnicpkaaDoorVarint2
import Derived.StillTailTactics
namespace Go.Proofs.YtlkcibhdnicpkaaDoor
namespace Vi
open Go.RowKit Ba Vm
set_option linter.unusedVariables false

theorem room_yes (n : Int) (k : Nat) (hn : 0 ≤ n) (hk : W4 k) (h : n < lim k) (w : World) : Calls Tryd.prog 73 #[.int .i64 n, .int .i64 k] w fun e w' => e = .returned (.bool true) ∧ w = w' := by
  rcases hk with rfl | rfl | rfl | rfl
  all_goals
    simp only [lim] at h
    have hn2 : n ≤ 9223372036854775807 := by omega
    go_enter Tryd.func73, Tryd.ntmps73
    go_wp2
    go_ret
    exact ⟨ret_bool (by first | (simp; done) | (simp; omega)), rfl⟩
theorem room_no (n : Int) (k : Nat) (hn2 : n ≤ 9223372036854775807) (hk : W4 k) (h : n < 0 ∨ lim k ≤ n) (w : World) : Calls Tryd.prog 73 #[.int .i64 n, .int .i64 k] w fun e w' => e = .returned (.bool false) ∧ w = w' := by
  rcases hk with rfl | rfl | rfl | rfl
  all_goals
    simp only [lim] at h
    rcases h with h | h
    · go_enter Tryd.func73, Tryd.ntmps73
      go_wp2
      go_ret
      exact ⟨rfl, rfl⟩
    · go_enter Tryd.func73, Tryd.ntmps73
      go_wp2
      go_ret
      exact ⟨ret_bool (by first | (simp; done) | (simp; omega)), rfl⟩

set_option maxHeartbeats 400000 in
theorem rlen_calls (n : Int) (hn : n ≤ 9223372036854775807) (w : World) : Calls Tryd.prog 68 #[.int .i64 n] w fun e w' => e = .returned (.int .i64 (len n : Int)) ∧ w = w' := by
  go_enter Tryd.func68, Tryd.ntmps68
  go_wp2
  go_loop [3] (fun i => ∃ (k : Nat) (x : Int), k ≤ 4 ∧ i = .int .i64 x ∧ Hid (x = ((2 ^ k : Nat) : Int)) ∧ (k ≤ 3 → x ≤ 8) ∧ (k = 4 → x = 16) ∧ 1 ≤ x ∧ x ≤ 16 ∧ (0 < k → n < 0 ∨ lim (2 ^ (k - 1)) ≤ n)) (fun i => 16 - (intOf i).toNat)
  case atStart => exact ⟨0, 1, by omega, rfl, rfl, by omega, by omega, by omega, by omega, by omega⟩
  case round =>
    obtain ⟨k, x, hk, rfl, HX, hx3, hx4, hx1, hx16, hp⟩ := hrel
    by_cases h4 : k = 4
    · have h16 := hx4 h4
      subst h16
      have hz := Lib.hid (len_none n (by have := hp (by omega); rw [h4] at this; simpa [lim] using this))
      clear hx4 hx3 hp
      go_wp2
      go_ret
      exact ⟨ret_int (by rw [hz.out]; rfl), rfl⟩
    · have hx8 := hx3 (by omega)
      clear hx3 hx4
      have hw : W4 (2 ^ k) := by
        unfold W4
        have : k = 0 ∨ k = 1 ∨ k = 2 ∨ k = 3 := by omega
        rcases this with rfl | rfl | rfl | rfl <;> simp
      by_cases hc : 0 ≤ n ∧ n < lim (2 ^ k)
      · have hz := Lib.hid (len_pow n k (by omega) hc.1 hc.2 hp)
        clear hp
        go_wp2_with (go_at_call 73; refine Calls.mono (R := fun e w' => e = .returned (.bool true) ∧ _ = w') (by rw [HX.out]; exact room_yes n (2 ^ k) hc.1 hw hc.2 _) ?_; rintro e w' ⟨rfl, rfl⟩)
        go_ret
        exact ⟨ret_int (by rw [hz.out]; exact HX.out), rfl⟩
      · have hp1 : n < 0 ∨ lim (2 ^ k) ≤ n := by omega
        clear hp
        have Hp1 := Lib.hid hp1
        clear hp1 hc
        go_wp2_with (go_at_call 73; refine Calls.mono (R := fun e w' => e = .returned (.bool false) ∧ _ = w') (by rw [HX.out]; exact room_no n (2 ^ k) hn hw Hp1.out _) ?_; rintro e w' ⟨rfl, rfl⟩)
        all_goals
          refine ⟨⟨k + 1, 2 * x, by omega, by go_num, ?_, ?_, ?_, by omega, by omega, ?_⟩, by simp [intOf]; omega⟩
          · have := HX.out; show 2 * x = _; rw [Nat.pow_succ]; omega
          · intro h3; have h : k = 0 ∨ k = 1 ∨ k = 2 := by omega
            have := HX.out; rcases h with rfl | rfl | rfl <;> simp at this <;> omega
          · intro h3; have h : k = 3 := by omega
            have := HX.out; subst h; simp at this; omega
          · intro _; simpa using Hp1.out

theorem bits_calls (k : Nat) (hk : W4 k) (w : World) : Calls Tryd.prog 74 #[.int .i64 k] w fun e w' => e = .returned (.int .u8 (tag k * 64 : Nat)) ∧ w = w' := by
  rcases hk with rfl | rfl | rfl | rfl
  all_goals
    go_enter Tryd.func74, Tryd.ntmps74
    go_wp2
    go_ret
    exact ⟨rfl, rfl⟩
end Vi
end Go.Proofs.YtlkcibhdnicpkaaDoor
