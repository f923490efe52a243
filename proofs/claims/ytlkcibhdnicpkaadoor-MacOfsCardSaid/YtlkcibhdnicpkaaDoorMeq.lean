/- Whether bytes are the same, by the program: the walk of mac.Equal. -/
import Derived.Test.YtlkcibhdnicpkaaDoorMtag
import Derived.Deep.QuietTactic
import Derived.BigQuiet
namespace Go.Proofs.YtlkcibhdnicpkaaDoor
namespace Mc
open Go.RowKit Ba Sm
set_option linter.unusedVariables false
theorem o8 (a b : UInt8) : bits .or .u8 (a.toNat : Int) (b.toNat : Int) = ((a ||| b : UInt8).toNat : Int) := by
  have h := (a ||| b).toNat_lt
  show IntKind.u8.wrap ((BitVec.ofInt 8 (a.toNat : Int) ||| BitVec.ofInt 8 (b.toNat : Int)).toNat : Int) = _
  rw [BitVec.toNat_or, ofInt_u8, ofInt_u8, IntKind.wrap_u8, ← UInt8.toNat_or]
  omega
def oth (a b : List UInt8) : Nat → UInt8
  | 0 => 0
  | i + 1 => oth a b i ||| (a.getD i 0 ^^^ b.getD i 0)
theorem oth_zero (a b : List UInt8) : ∀ n, oth a b n = 0 ↔ ∀ i, i < n → a.getD i 0 = b.getD i 0
  | 0 => by simp [oth]
  | n + 1 => by
    rw [oth, UInt8.or_eq_zero_iff, oth_zero a b n, UInt8.xor_eq_zero_iff]
    constructor
    · rintro ⟨h1, h2⟩ i hi
      rcases Nat.lt_or_ge i n with h | h
      · exact h1 i h
      · rw [show i = n by omega]; exact h2
    · intro h
      exact ⟨fun i hi => h i (by omega), h n (by omega)⟩
theorem oth_eq (a b : List UInt8) (h : a.length = b.length) : (oth a b a.length == 0) = (a == b) := by
  rw [Bool.eq_iff_iff, beq_iff_eq, beq_iff_eq, oth_zero]
  constructor
  · intro hh
    apply List.ext_getElem h
    intro i h1 h2
    have := hh i h1
    simpa [List.getD, h1, h2] using this
  · rintro rfl i _
    rfl
set_option maxRecDepth 100000 in
set_option maxHeartbeats 4000000 in
theorem equal_calls {a b : List UInt8} {A B : Option Addr} {n m c d : Nat} {w : World} (hn : n = a.length) (hm : m = b.length) (ha : ReadB w w.heap.size A a) (hb : ReadB w w.heap.size B b) (hm1 : a.length ≤ 9223372036854775807) (hm2 : b.length ≤ 9223372036854775807) :
    Calls Tryd.prog 36 #[.slice A n c, .slice B m d] w fun e w' => e = .returned (.bool (a == b)) ∧ Below w.heap.size w w' := by
  subst hn hm
  by_cases hl : a.length = b.length
  · have Hl := Lib.hid hl
    have hl2 : ((a.length : Int) != (b.length : Int)) = false := by rw [hl]; simp
    have Ha := Lib.hid ha
    have Hb := Lib.hid hb
    clear ha hb hl
    go_enter Tryd.func36, Tryd.ntmps36
    go_wp2_with fail
    go_loopw [5, 6, 14] (fun o _ i wr => ∃ k : Nat, k ≤ a.length ∧ i = .int .i64 k ∧ o = .int .u8 ((oth a b k).toNat : Int) ∧ Below w.heap.size w wr) (fun _ _ i _ => a.length - (intOf i).toNat)
    case atStart => exact ⟨0, Nat.zero_le _, rfl, rfl, Below.refl _ _⟩
    case round =>
      obtain ⟨k, hk, rfl, rfl, hbw⟩ := hrel
      by_cases hlt : k < a.length
      · obtain ⟨b1, o1, rfl, _, hc1⟩ := (Ha.out.below hbw) (by omega)
        obtain ⟨b2, o2, rfl, _, hc2⟩ := (Hb.out.below hbw) (by have := Hl.out; omega)
        have h1 := hc1 k hlt
        have h2 := hc2 k (by have := Hl.out; omega)
        have hx := x8 (a.getD k 0) (b.getD k 0)
        have ho := o8 (oth a b k) (a.getD k 0 ^^^ b.getD k 0)
        have hoo : oth a b k ||| (a.getD k 0 ^^^ b.getD k 0) = oth a b (k + 1) := rfl
        rw [hoo] at ho
        have hlt2 : k < b.length := by have := Hl.out; omega
        have Hbw := Lib.hid hbw
        clear hoo hc1 hc2 hbw
        obtain ⟨o', ho'⟩ : ∃ o', o' = oth a b (k + 1) := ⟨_, rfl⟩
        rw [← ho'] at ho
        have Ho' := Lib.hid ho'
        clear ho'
        generalize (a.getD k 0 ^^^ b.getD k 0).toNat = z at *
        generalize (a.getD k 0).toNat = x at *
        generalize (b.getD k 0).toNat = y at *
        generalize (oth a b k).toNat = o at *
        go_wp2_with fail
        go_quiet (fail)
        go_wp2_with fail
        go_roundw
        case rel => exact ⟨k + 1, by omega, by go_num, by rw [← Ho'.out], below_drewN Hbw.out _⟩
        case measure => simp [intOf]; omega
      · have hkk : k = a.length := by omega
        have he := oth_eq a b Hl.out
        rw [← hkk] at he
        have He := Lib.hid he
        have hz : ∀ o : UInt8, ((o.toNat : Int) == 0) = (o == 0) := fun o => by
          rw [Bool.eq_iff_iff, beq_iff_eq, beq_iff_eq, ← UInt8.toNat_inj]
          simp
        have Hz := Lib.hid (hz (oth a b k))
        have Hbw := Lib.hid hbw
        clear he hkk hz hbw
        generalize oth a b k = o at *
        go_wp2_with fail
        go_ret
        exact ⟨by rw [← He.out, ← Hz.out]; rfl, Hbw.out⟩
  · have hab : (a == b) = false := by rw [beq_eq_false_iff_ne]; rintro rfl; exact hl rfl
    have hl2 : ((a.length : Int) != (b.length : Int)) = true := by simp; omega
    have Hab := Lib.hid hab
    clear hl hab ha hb
    go_enter Tryd.func36, Tryd.ntmps36
    go_wp2_with fail
    go_ret
    exact ⟨by rw [Hab.out]; rfl, Below.refl _ _⟩
end Mc
end Go.Proofs.YtlkcibhdnicpkaaDoor
