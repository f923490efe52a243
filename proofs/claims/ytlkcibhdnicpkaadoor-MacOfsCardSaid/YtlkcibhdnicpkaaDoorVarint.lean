/- What the program tells of a number of the wire: its width, and what bytes begin with. -/
import Derived.Test.YtlkcibhdnicpkaaDoorProg
import Derived.Test.YtlkcibhdnicpkaaDoorBase
import Derived.Test.YtlkcibhdnicpkaaDoorVmath
import Derived.WalkKit
import Derived.KernelRfl
import Derived.RowKit3
import Derived.Deep.LoopGhost
import Derived.Deep.QuietTactic
import Derived.BigQuiet
import Derived.Lib.Hide
namespace Go.Proofs.YtlkcibhdnicpkaaDoor
namespace Vi
open Go.RowKit Ba Vm
set_option linter.unusedVariables false

theorem widths_calls (w : World) : Calls Tryd.prog 70 #[] w fun e w' => e = .returned (.agg #[.int .i64 1, .int .i64 2, .int .i64 4, .int .i64 8]) ∧ Below w.heap.size w w' := by
  go_enter Tryd.func70, Tryd.ntmps70
  go_wp2
  exact bodyPost_ret (v := .agg #[.int .i64 1, .int .i64 2, .int .i64 4, .int .i64 8]) (by simp [results, Tryd.results70, go_sem]) rfl ⟨rfl, (Below.refl _ _).alloc (Nat.le_refl _) _⟩

theorem ret_bool {a b : Bool} (h : a = b) : Ending.returned (.bool a) = .returned (.bool b) := by rw [h]
theorem ret_int {k : IntKind} {a b : Int} (h : a = b) : Ending.returned (.int k a) = .returned (.int k b) := by rw [h]

theorem fits_yes (n : Int) (k : Nat) (hn : 0 ≤ n) (hk : W4 k) (h : n < lim k) (w : World) : Calls Tryd.prog 71 #[.int .i64 n, .int .i64 k] w fun e w' => e = .returned (.bool true) ∧ w = w' := by
  rcases hk with rfl | rfl | rfl | rfl
  all_goals
    simp only [lim] at h
    have hn2 : n ≤ 9223372036854775807 := by omega
    go_enter Tryd.func71, Tryd.ntmps71
    go_wp2
    go_ret
    exact ⟨ret_bool (by first | (simp; done) | (simp; omega)), rfl⟩
theorem fits_no (n : Int) (k : Nat) (hn2 : n ≤ 9223372036854775807) (hk : W4 k) (h : n < 0 ∨ lim k ≤ n) (w : World) : Calls Tryd.prog 71 #[.int .i64 n, .int .i64 k] w fun e w' => e = .returned (.bool false) ∧ w = w' := by
  rcases hk with rfl | rfl | rfl | rfl
  all_goals
    simp only [lim] at h
    rcases h with h | h
    · go_enter Tryd.func71, Tryd.ntmps71
      go_wp2
      go_ret
      exact ⟨rfl, rfl⟩
    · go_enter Tryd.func71, Tryd.ntmps71
      go_wp2
      go_ret
      exact ⟨ret_bool (by simp; omega), rfl⟩

set_option maxRecDepth 100000 in
set_option maxHeartbeats 400000 in
theorem len_calls (n : Int) (hn : n ≤ 9223372036854775807) (w : World) : Calls Tryd.prog 66 #[.int .i64 n] w fun e w' => e = .returned (.int .i64 (len n : Int)) ∧ Below w.heap.size w w' := by
  go_enter Tryd.func66, Tryd.ntmps66
  go_wp2_with (go_at_call 70; refine (widths_calls _).mono ?_; rintro e w1 ⟨rfl, hb1⟩)
  go_loop [6] (fun i => ∃ k : Nat, k ≤ 4 ∧ i = .int .i64 k ∧ (0 < k → n < 0 ∨ lim (2 ^ (k - 1)) ≤ n)) (fun i => 4 - (intOf i).toNat)
  case atStart => exact ⟨0, by omega, rfl, by omega⟩
  case round =>
    obtain ⟨k, hk, rfl, hp⟩ := hrel
    by_cases h4 : k = 4
    · subst h4
      go_wp2
      go_ret
      exact ⟨ret_int (by rw [len_none n (by have := hp (by omega); simpa [lim] using this)]; rfl), hb1⟩
    · have hw : W4 (2 ^ k) := by
        unfold W4
        have : k = 0 ∨ k = 1 ∨ k = 2 ∨ k = 3 := by omega
        rcases this with rfl | rfl | rfl | rfl <;> simp
      have hx : ∀ w : World, (Instr.index 98 (.agg #[.int .i64 1, .int .i64 2, .int .i64 4, .int .i64 8]) (.int .i64 (k : Int))).run Tryd.prog w = .ok (.int .i64 ((2 ^ k : Nat) : Int)) w := by
        have : k = 0 ∨ k = 1 ∨ k = 2 ∨ k = 3 := by omega
        rcases this with rfl | rfl | rfl | rfl <;> exact fun _ => by kernel_rfl
      by_cases hc : 0 ≤ n ∧ n < lim (2 ^ k)
      · go_wp2_with (go_at_call 71; refine (fits_yes n (2 ^ k) hc.1 hw hc.2 _).mono ?_; rintro e w' ⟨rfl, rfl⟩)
        go_ret
        exact ⟨ret_int (by rw [len_pow n k (by omega) hc.1 hc.2 hp]; rfl), hb1⟩
      · go_wp2_with (go_at_call 71; refine (fits_no n (2 ^ k) hn hw (by omega) _).mono ?_; rintro e w' ⟨rfl, rfl⟩)
        go_round
        case rel => exact ⟨k + 1, by omega, by go_num, fun _ => by simp; omega⟩
        case measure => simp [intOf]; omega

set_option maxRecDepth 100000 in
set_option maxHeartbeats 400000 in
theorem tell_calls (d : Int) (w : World) : Calls Tryd.prog 72 #[.int .i64 d] w fun e w' => e = .returned (.int .i64 (tell d)) ∧ Below w.heap.size w w' := by
  go_enter Tryd.func72, Tryd.ntmps72
  go_wp2_with (go_at_call 70; refine (widths_calls _).mono ?_; rintro e w1 ⟨rfl, hb1⟩)
  go_loop [6] (fun i => ∃ k : Nat, k ≤ 4 ∧ i = .int .i64 k ∧ (∀ j : Nat, j < k → d ≠ ((2 ^ j : Nat) : Int))) (fun i => 4 - (intOf i).toNat)
  case atStart => exact ⟨0, by omega, rfl, by omega⟩
  case round =>
    obtain ⟨k, hk, rfl, hp⟩ := hrel
    by_cases h4 : k = 4
    · subst h4
      have ht := Lib.hid (tell_none d hp)
      clear hp
      go_wp2
      go_ret
      exact ⟨ret_int (by rw [ht.out]), hb1⟩
    · have hx : ∀ w : World, (Instr.index 98 (.agg #[.int .i64 1, .int .i64 2, .int .i64 4, .int .i64 8]) (.int .i64 (k : Int))).run Tryd.prog w = .ok (.int .i64 ((2 ^ k : Nat) : Int)) w := by
        have : k = 0 ∨ k = 1 ∨ k = 2 ∨ k = 3 := by omega
        rcases this with rfl | rfl | rfl | rfl <;> exact fun _ => by kernel_rfl
      have Hp := Lib.hid hp
      clear hp
      by_cases hc : d = ((2 ^ k : Nat) : Int)
      · subst hc
        go_wp2
        go_ret
        exact ⟨ret_int (by have := tell_pow k (by omega); simpa using this.symm), hb1⟩
      · obtain ⟨x, hX⟩ : ∃ x : Int, x = ((2 ^ k : Nat) : Int) := ⟨_, rfl⟩
        rw [← hX] at hc hx
        have hcb : (x == d) = false := by rw [beq_eq_false_iff_ne]; exact fun h => hc h.symm
        have HX := Lib.hid hX
        clear hX
        go_wp2
        have hk1 : k + 1 ≤ 4 := by clear hcb; omega
        refine ⟨⟨k + 1, hk1, by go_num, fun j hj => ?_⟩, by simp [intOf]; clear hcb; omega⟩
        rcases Nat.lt_or_ge j k with h | h
        · exact Hp.out j h
        · have : j = k := by clear hcb; omega
          subst this; rw [← HX.out]; exact hc

end Vi
end Go.Proofs.YtlkcibhdnicpkaaDoor
