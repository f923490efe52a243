/- What the reference lays and reads of a number of the wire, in its least width. -/
import Derived.Test.YtlkcibhdnicpkaaDoorVref2
namespace Go.Proofs.YtlkcibhdnicpkaaDoor
namespace Vi
open Go.RowKit Ba Vm
set_option linter.unusedVariables false

set_option maxHeartbeats 400000 in
theorem rput_calls (n : Int) (hn : n ≤ 9223372036854775807) (w : World) : Calls Tryd.prog 65 #[.int .i64 n] w
    fun e w' => ∃ v, e = .returned (.tuple #[v, .int .i64 (put n).2]) ∧ OwnB w' w.heap.size 5 v (put n).1 ∧ Below w.heap.size w w' := by
  have Hp := Lib.hid (put_eq n)
  rcases Nat.eq_zero_or_pos (len n) with h0 | h0
  · have H0 := Lib.hid h0
    clear h0
    go_enter Tryd.func65, Tryd.ntmps65
    go_wp2_with (go_at_call 68; refine (rlen_calls _ hn _).mono ?_; rw [H0.out]; rintro e w1 ⟨rfl, rfl⟩)
    go_ret2
    exact ⟨.slice none 0 0, by rw [Hp.out, if_pos H0.out]; rfl, by rw [Hp.out, if_pos H0.out]; exact OwnB.nil, Below.refl _ _⟩
  · have hz : ((len n : Int) == 0) = false := by rw [beq_eq_false_iff_ne]; omega
    go_enter Tryd.func65, Tryd.ntmps65
    go_wp2_with (first
      | (go_at_call 68; refine (rlen_calls _ hn _).mono ?_; rintro e w1 ⟨rfl, rfl⟩)
      | (go_at_call 69; refine (rputIn_calls _ _ hn _).mono ?_; rintro e w2 ⟨v, rfl, ho, hb2⟩))
    go_ret2
    have hz : ¬ len n = 0 := by omega
    exact ⟨v, by rw [Hp.out, if_neg hz]; rfl, by rw [Hp.out, if_neg hz]; exact ho, hb2⟩

end Vi
end Go.Proofs.YtlkcibhdnicpkaaDoor
