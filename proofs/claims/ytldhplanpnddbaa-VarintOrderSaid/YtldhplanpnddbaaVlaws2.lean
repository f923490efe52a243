/- The walks of three statements on numbers of the wire: read as put, cut off, in their order. -/
import Derived.Test.YtldhplanpnddbaaVlaws
import Derived.Test.YtldhplanpnddbaaVmath2
namespace Go.Proofs.Ytldhplanpnddbaa
namespace Vi
open Go.RowKit Ba Vm
set_option linter.unusedVariables false

set_option maxHeartbeats 800000 in
theorem order_calls (a b : Int) (ha : a ≤ 9223372036854775807) (hb : b ≤ 9223372036854775807) (w : World) : Calls Try.prog 8 #[.int .i64 a, .int .i64 b] w fun e w' => e = .returned (.bool true) ∧ Below w.heap.size w w' := by
  have fin : ∀ W, Below w.heap.size w W → Calls Try.prog 16 #[] W fun e w' => e = .returned (.bool true) ∧ Below w.heap.size w w' := fun W hW => (awake1_calls W).mono fun e w' ⟨h1, h2⟩ => ⟨h1, bthen hW h2⟩
  have Hf := Lib.hid fin
  clear fin
  rcases len_w4 a with ha0 | ⟨hwa, ha0, hla⟩
  · have hp : put a = ([], 13) := by unfold put; rw [if_pos ha0]
    have Hp := Lib.hid hp
    clear hp ha0
    go_enter Try.func8, Try.ntmps8
    go_wp2_with fail
    refine (put_calls a ha _).mono ?_
    rw [Hp.out]
    rintro e w1 ⟨v1, rfl, ho1, hb1⟩
    go_wp2_with fail
    refine (put_calls b hb _).mono ?_
    rintro e w2 ⟨v2, rfl, ho2, hb2⟩
    go_wp2_with (go_at_call 16; refine (Hf.out _ (bthen hb1 hb2)).mono ?_; rintro e w5 ⟨rfl, hb5⟩)
    go_ret
    exact ⟨rfl, hb5⟩
  · have hp : put a = (enc a.toNat (len a), 0) := by unfold put; rw [if_neg (by rcases hwa with h | h | h | h <;> omega)]
    have Hp := Lib.hid hp
    clear hp
    rcases len_w4 b with hb0 | ⟨hwb, hb0, hlb⟩
    · have hq : put b = ([], 13) := by unfold put; rw [if_pos hb0]
      have Hq := Lib.hid hq
      clear hq hb0
      go_enter Try.func8, Try.ntmps8
      go_wp2_with fail
      refine (put_calls a ha _).mono ?_
      rw [Hp.out]
      rintro e w1 ⟨v1, rfl, ho1, hb1⟩
      go_wp2_with fail
      refine (put_calls b hb _).mono ?_
      rw [Hq.out]
      rintro e w2 ⟨v2, rfl, ho2, hb2⟩
      go_wp2_with (go_at_call 16; refine (Hf.out _ (bthen hb1 hb2)).mono ?_; rintro e w5 ⟨rfl, hb5⟩)
      go_ret
      exact ⟨rfl, hb5⟩
    · have hq : put b = (enc b.toNat (len b), 0) := by unfold put; rw [if_neg (by rcases hwb with h | h | h | h <;> omega)]
      have Hq := Lib.hid hq
      clear hq
      have hless : len a = len b → Op.bytesLess (enc a.toNat (len a)) (enc b.toNat (len b)) = decide (a < b) := fun e => by
        rw [← e, enc_less _ _ _ hwa (by omega) (by rw [e]; omega)]
        simp; omega
      have heq : (enc a.toNat (len a) == enc b.toNat (len b)) = (a == b) := by
        rw [Bool.eq_iff_iff, beq_iff_eq, beq_iff_eq]
        constructor
        · intro h; have := enc_inj _ _ _ _ hwa hwb (by omega) (by omega) h; omega
        · rintro rfl; rfl
      have hlA := enc_length a.toNat (len a)
      have hlB := enc_length b.toNat (len b)
      obtain ⟨la, hla2⟩ : ∃ x, x = enc a.toNat (len a) := ⟨_, rfl⟩
      obtain ⟨lb, hlb2⟩ : ∃ x, x = enc b.toNat (len b) := ⟨_, rfl⟩
      rw [← hla2, ← hlb2] at hless heq
      rw [← hla2] at hlA
      rw [← hlb2] at hlB
      go_enter Try.func8, Try.ntmps8
      go_wp2_with fail
      refine (put_calls a ha _).mono ?_
      rw [Hp.out, ← hla2]
      rintro e w1 ⟨v1, rfl, ho1, hb1⟩
      obtain ⟨A1, c1, rfl, hlc1, hcm1, hr1, _⟩ := ho1.opens
      have Hhide := Lib.hid (And.intro hless (And.intro heq (And.intro hlA (And.intro hlB (And.intro hla2 hlb2)))))
      clear hless heq hlA hlB hla2 hlb2
      go_wp2_with fail
      refine (put_calls b hb _).mono ?_
      rw [Hq.out, ← Hhide.out.2.2.2.2.2]
      rintro e w2 ⟨v2, rfl, ho2, hb2⟩
      obtain ⟨A2, c2, rfl, hlc2, hcm2, hr2, _⟩ := ho2.opens
      have s1 := strof_rule w2 A1 c1 _ ((hr1.below hb2).more hb2.size)
      have s2 := strof_rule w2 A2 c2 _ hr2
      by_cases hll : la.length = lb.length
      · have hlen : (la.length == lb.length) = true := by rw [beq_iff_eq]; exact hll
        have hlen2 : ((la.length : Int) == (lb.length : Int)) = true := by rw [beq_iff_eq]; omega
        have hless := Hhide.out.1 (by rw [← Hhide.out.2.2.1, hll, Hhide.out.2.2.2.1])
        have heq := Hhide.out.2.1
        have Hll := Lib.hid hll
        clear hll
        rcases Int.lt_trichotomy a b with hab | hab | hab
        · have h1 : decide (a < b) = true := by simpa using hab
          have h2 : (a == b) = false := by rw [beq_eq_false_iff_ne]; omega
          have h3 : ¬ la = lb := by rw [h2, beq_eq_false_iff_ne] at heq; exact heq
          rw [h1] at hless
          rw [h2] at heq
          clear hab
          go_wp2_with (go_at_call 16; refine (Hf.out _ (bthen hb1 hb2)).mono ?_; rintro e w5 ⟨rfl, hb5⟩)
          go_ret
          exact ⟨rfl, hb5⟩
        · subst hab
          have h3 : la = lb := by simpa using heq
          subst h3
          have h1 : decide (a < a) = false := by simp
          rw [h1] at hless
          clear heq
          go_wp2_with (go_at_call 16; refine (Hf.out _ (bthen hb1 hb2)).mono ?_; rintro e w5 ⟨rfl, hb5⟩)
          go_ret
          exact ⟨rfl, hb5⟩
        · have h1 : decide (a < b) = false := by simp; omega
          have h2 : (a == b) = false := by rw [beq_eq_false_iff_ne]; omega
          have h3 : ¬ la = lb := by rw [h2, beq_eq_false_iff_ne] at heq; exact heq
          rw [h1] at hless
          rw [h2] at heq
          clear hab
          go_wp2_with (go_at_call 16; refine (Hf.out _ (bthen hb1 hb2)).mono ?_; rintro e w5 ⟨rfl, hb5⟩)
          go_ret
          exact ⟨rfl, hb5⟩
      · have hlen : (la.length == lb.length) = false := by rw [beq_eq_false_iff_ne]; exact hll
        have hlen2 : ((la.length : Int) == (lb.length : Int)) = false := by rw [beq_eq_false_iff_ne]; omega
        have h3 : ¬ la = lb := by rintro rfl; exact hll rfl
        have h2 : (a == b) = false := by rw [← Hhide.out.2.1, beq_eq_false_iff_ne]; exact h3
        have h4 : (la == lb) = false := by rw [beq_eq_false_iff_ne]; exact h3
        clear hll
        go_wp2_with (go_at_call 16; refine (Hf.out _ (bthen hb1 hb2)).mono ?_; rintro e w5 ⟨rfl, hb5⟩)
        go_ret
        exact ⟨rfl, hb5⟩
end Vi
end Go.Proofs.Ytldhplanpnddbaa
