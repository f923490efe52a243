/- The walks of the six statements on numbers of the wire. -/
import Derived.Test.YtldhplanpnddbaaVref3
namespace Go.Proofs.Ytldhplanpnddbaa
namespace Vi
open Go.RowKit Ba Vm
set_option linter.unusedVariables false

theorem strof_rule (W : World) (A : Option Addr) (c : Nat) (l : List UInt8) (h : ReadB W W.heap.size A l) : (convert 25 9 (.slice A l.length c)).run Try.prog W = .ok (.string (S l)) W :=
  run_strof W 25 5 Try.underlying25 Try.underlying5 A c _ l h 9 Try.underlying9

theorem lit2 (w : World) (E : TypeId) (x y : UInt8) (a b : Int) (g : Nat) (ha : a = (x.toNat : Int)) (hb : b = (y.toNat : Int)) (hg : g = w.heap.size) : ReadB (w.alloc (.cells #[.int .u8 a, .int .u8 b] E)) (g + 1) (some ⟨g, 0, none⟩) [x, y] := by
  subst ha hb hg
  intro _
  refine ⟨w.heap.size, 0, rfl, by omega, fun k hk => ?_⟩
  have hk2 : k = 0 ∨ k = 1 := by simp at hk; omega
  rw [cell_of_row _ w.heap.size (0 + k) #[.int .u8 (x.toNat : Int), .int .u8 (y.toNat : Int)] E (0, 0) (heap_alloc_new w _)]
  rcases hk2 with rfl | rfl <;> rfl

theorem put15293 : put 15293 = ([123, 189], 0) := by decide +kernel
theorem get37 : get [64, 37] = (37, 2, 0) := by decide +kernel
theorem short37 : shortest [64, 37] = (0, 0, 4) := by decide +kernel

set_option maxHeartbeats 800000 in
theorem awake1_calls (w : World) : Calls Try.prog 16 #[] w fun e w' => e = .returned (.bool true) ∧ Below w.heap.size w w' := by
  have hp : ∀ W, Calls Try.prog 17 #[.int .i64 15293] W fun e w' => ∃ v, e = .returned (.tuple #[v, .int .i64 0]) ∧ OwnB w' W.heap.size 5 v [123, 189] ∧ Below W.heap.size W w' := fun W => by
    have := put_calls 15293 (by omega) W
    rw [put15293] at this
    exact this
  have hg : ∀ W A c B, ReadB W B A [64, 37] → 2 ≤ c → c ≤ 9223372036854775807 → Calls Try.prog 21 #[.slice A 2 c] W fun e w' => e = .returned (.tuple #[.int .i64 37, .int .i64 2, .int .i64 0]) ∧ W = w' := fun W A c B h1 h2 h3 => by
    have := get_calls [64, 37] A c B W h1 h2 h3
    rw [get37] at this
    exact this
  have hs : ∀ W A c B, ReadB W B A [64, 37] → 2 ≤ c → c ≤ 9223372036854775807 → Calls Try.prog 23 #[.slice A 2 c] W fun e w' => e = .returned (.tuple #[.int .i64 0, .int .i64 0, .int .i64 4]) ∧ Below W.heap.size W w' := fun W A c B h1 h2 h3 => by
    have := shortest_calls [64, 37] A c B W h1 h2 h3
    rw [short37] at this
    exact this
  have Hp := Lib.hid hp
  have Hg := Lib.hid hg
  have Hs := Lib.hid hs
  clear hp hg hs
  go_enter Try.func16, Try.ntmps16
  go_wp2_with (first
    | (go_at_call 17; go_must (refine (Hp.out _).mono ?_); rintro e w1 ⟨v1, rfl, ho1, hb1⟩; obtain ⟨A1, c1, rfl, hlc1, hcm1, hr1, _⟩ := ho1.opens)
    | (go_at_call 21; go_must (refine (Hg.out _ _ 2 _ (lit2 _ 5 64 37 64 37 _ rfl rfl (by simp)) (by omega) (by omega)).mono ?_); rintro e w2 ⟨rfl, rfl⟩)
    | (go_at_call 23; go_must (refine (Hs.out _ _ 2 _ (lit2 _ 5 64 37 64 37 _ rfl rfl (by simp)) (by omega) (by omega)).mono ?_); rintro e w3 ⟨rfl, hb3⟩
       have hb13 : Below w1.heap.size w1 w3 := (((Below.refl w1.heap.size w1).alloc (Nat.le_refl _) _).alloc (by simp) _).trans (hb3.mono (by simp; omega))
       have hr3 : ReadB w3 w3.heap.size A1 [123, 189] := (hr1.below hb13).more hb13.size
       have hst : (convert 25 9 (.slice A1 2 c1)).run Try.prog w3 = .ok (.string ⟨#[123, 189]⟩) w3 := strof_rule w3 A1 c1 [123, 189] hr3))
  go_ret
  exact ⟨rfl, hb1.trans (hb13.mono hb1.size)⟩

set_option maxHeartbeats 800000 in
theorem lens_calls (n : Int) (hn : n ≤ 9223372036854775807) (w : World) : Calls Try.prog 3 #[.int .i64 n] w fun e w' => e = .returned (.bool true) ∧ Below w.heap.size w w' := by
  go_enter Try.func3, Try.ntmps3
  go_wp2_with (first
    | (go_at_call 14; go_must (refine (len_calls _ hn _).mono ?_); rintro e w1 ⟨rfl, hb1⟩)
    | (go_at_call 15; go_must (refine (rlen_calls _ hn _).mono ?_); rintro e w2 ⟨rfl, rfl⟩)
    | (go_at_call 16; go_must (refine (awake1_calls _).mono ?_); rintro e w3 ⟨rfl, hb3⟩))
  go_ret
  exact ⟨rfl, hb1.trans (hb3.mono hb1.size)⟩

set_option maxHeartbeats 800000 in
theorem puts_calls (n d : Int) (hn : n ≤ 9223372036854775807) (w : World) : Calls Try.prog 4 #[.int .i64 n, .int .i64 d] w fun e w' => e = .returned (.bool true) ∧ Below w.heap.size w w' := by
  go_enter Try.func4, Try.ntmps4
  go_wp2_with (first
    | (go_at_call 17; go_must (refine (put_calls _ hn _).mono ?_); rintro e w1 ⟨v1, rfl, ho1, hb1⟩; obtain ⟨A1, c1, rfl, hlc1, hcm1, hr1, _⟩ := ho1.opens)
    | (go_at_call 18; go_must (refine (rput_calls _ hn _).mono ?_); rintro e w2 ⟨v2, rfl, ho2, hb2⟩; obtain ⟨A2, c2, rfl, hlc2, hcm2, hr2, _⟩ := ho2.opens
       have h12 := (hr1.below hb2).more hb2.size)
    | (go_at_call 19; go_must (refine (putIn_calls _ _ hn _).mono ?_); rintro e w3 ⟨v3, rfl, ho3, hb3⟩; obtain ⟨A3, c3, rfl, hlc3, hcm3, hr3, _⟩ := ho3.opens)
    | (go_at_call 20; go_must (refine (rputIn_calls _ _ hn _).mono ?_); rintro e w4 ⟨v4, rfl, ho4, hb4⟩; obtain ⟨A4, c4, rfl, hlc4, hcm4, hr4, _⟩ := ho4.opens
       have h14 := h12.below hb3
       have h24 := (hr2.below hb3).more hb3.size
       have s1 := strof_rule w4 A1 c1 _ (((h14.more hb3.size).below hb4).more hb4.size)
       have s2 := strof_rule w4 A2 c2 _ ((h24.below hb4).more hb4.size)
       have s3 := strof_rule w4 A3 c3 _ ((hr3.below hb4).more hb4.size)
       have s4 := strof_rule w4 A4 c4 _ hr4)
    | (go_at_call 16; go_must (refine (awake1_calls _).mono ?_); rintro e w5 ⟨rfl, hb5⟩))
  go_ret
  exact ⟨rfl, bthen (bthen (bthen (bthen hb1 hb2) hb3) hb4) hb5⟩

set_option maxHeartbeats 800000 in
theorem gets_calls (l : List UInt8) (A : Option Addr) (c B : Nat) (w : World) (h : ReadB w B A l) (hB : B ≤ w.heap.size) (hlc : l.length ≤ c) (hcm : c ≤ 9223372036854775807) : Calls Try.prog 5 #[.slice A l.length c] w fun e w' => e = .returned (.bool true) ∧ Below w.heap.size w w' := by
  go_enter Try.func5, Try.ntmps5
  go_wp2_with (first
    | (go_at_call 21; go_must (refine (get_calls l A c B _ h hlc hcm).mono ?_); rintro e w1 ⟨rfl, rfl⟩)
    | (go_at_call 22; go_must (refine (rget_calls l A c B _ h hlc hcm).mono ?_); rintro e w2 ⟨rfl, rfl⟩)
    | (go_at_call 23; go_must (refine (shortest_calls l A c B _ h hlc hcm).mono ?_); rintro e w3 ⟨rfl, hb3⟩
       have h3 := h.below (hb3.mono hB))
    | (go_at_call 24; go_must (refine (rshortest_calls l A c B _ h3 hlc hcm).mono ?_); rintro e w4 ⟨rfl, rfl⟩)
    | (go_at_call 16; go_must (refine (awake1_calls _).mono ?_); rintro e w5 ⟨rfl, hb5⟩))
  go_ret
  exact ⟨rfl, bthen hb3 hb5⟩
end Vi
end Go.Proofs.Ytldhplanpnddbaa
